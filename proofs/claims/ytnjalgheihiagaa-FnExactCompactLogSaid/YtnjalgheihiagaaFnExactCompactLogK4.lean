/- The law FnExactCompactLog holds (part 5 of 6; merged by pack2.py). -/
import Derived.Deep.Slices
import Derived.ChangeArms
import Derived.ProofKit
import Derived.Test.YtnjalgheihiagaaFnExactCompactLogK3
set_option maxRecDepth 1000000
open List (setIfInBounds_toArray set_cons_zero set_cons_succ map_toArray map_cons map_nil length_drop length_take)
namespace Go.Proofs.Ytnjalgheihiagaa.T
open Go.RowKit Go.Proofs.YtnjalgheihiagaaW.PrintWords Go.Proofs.YtnjalgheihiagaaW.PrintLast Go.Proofs.YtnjalgheihiagaaW.PrintMore

set_option linter.unusedVariables false
set_option linter.unusedSimpArgs false
def Ru.f (k:Nat) (a0_0:Bool) (a0_1:Bool) (a0_2:Int) (a0_3:Int) (a0_4:Int) (l0_5:List (S47)) (a1_0:Bool) (a1_1:Bool) (a1_2:Int) (a1_3:Int) (a1_4:Int) (l1_5:List (S47)):Option (Bool):=if (a0_0 != a1_0)=true then (some false) else (if (a0_1 != a1_1)=true then (some false) else (if a0_2=a1_2 then (if a0_3=a1_3 then (if a0_4=a1_4 then ((Qj.f k l0_5 l1_5).bind fun t334=>(if t334=true then (some true) else (some false))) else (some false)) else (some false)) else (some false)))
set_option maxHeartbeats 8000000 in
theorem Ru.calls (k:Nat) (a3:Bool) (a4:Bool) (a9:Int) (b0:Int) (b1:Int) (b2:Option Addr) (b3:Nat) (a5:List (S47)) (b8:Bool) (b9:Bool) (c5:Int) (c6:Int) (c7:Int) (c8:Option Addr) (d0:Nat) (c0:List (S47)) (r:Bool) (w:World) (d9:Kd.C k47 w b2 a5.length a5) (e0:a5.length≤b3) (e1:Kd.C k47 w c8 c0.length c0) (e2:c0.length≤d0) (h:Ru.f k a3 a4 a9 b0 b1 a5 b8 b9 c5 c6 c7 c0=some r) :
  Calls Try.prog 22 #[.agg #[.bool a3,.bool a4,.int .i64 a9,.int .i64 b0,.int .i64 b1,.slice b2 a5.length b3],.agg #[.bool b8,.bool b9,.int .i64 c5,.int .i64 c6,.int .i64 c7,.slice c8 c0.length d0]] w fun e w'=>e = .returned (.bool r)∧Below w.heap.size w w':=by
 have hu39:=Try.underlying39;have e3:=zzm d9;have e4:=zzm e0;clear d9 e0;have e5:=zzm e1;have e6:=zzm e2;clear e1 e2;have HB:=zzm (Below.refl w.heap.size w);have H:(if (a3 != b8)=true then (some false) else (if (a4 != b9)=true then (some false) else (if a9=c5 then (if b0=c6 then (if b1=c7 then ((Qj.f k a5 c0).bind fun d8=>(if d8=true then (some true) else (some false))) else (some false)) else (some false)) else (some false))))=some r:=h;clear h;by_cases c3:(a3 != b8)=true
 ·
  rw [if_pos c3] at H;have g5:(a3 != b8)=true:=c3
  (try (have g6:decide (a3=b8)=false:=by simpa using c3))
  (try (have g7:(a3==b8)=false:=by simpa using c3))
  (try (have C0:¬ (a3=b8):=by simpa using c3));clear c3;obtain rfl:=Option.some.inj H;go_enter Try.func22,Try.ntmps22;go_wp2_with (first|((with_reducible refine gate_dst (N:=2) rfl ?_);refine box_event ?hg (N:=2) ?hd (cs:=#[.bool a3,.bool a4,.int .i64 a9,.int .i64 b0,.int .i64 b1,.slice b2 a5.length b3]) (t:=39) ?hr ?_;(case hd=>rfl);(case hg=>rfl);(case hr=>first|(go_simp;done)|(go_simp;rfl));intro a0 hg w4 hbox hb;have a6:=zzm (zzp zzh1 hb);have a7:=zzm (hbox);have a8:=zzm ((by rw [hg];exact (zzo zzh1):w.heap.size≤a0));have b4:=zzm ((by rw [hg];exact (zzo zzh1):w.heap.size≤a0));clear HB;have HB:=a6;have a1:=a7;have d1:=a8;have d2:=b4;clear a6 a7 a8 b4 hb hbox hg)|((with_reducible refine gate_dst (N:=3) rfl ?_);refine box_event ?hg (N:=3) ?hd (cs:=#[.bool b8,.bool b9,.int .i64 c5,.int .i64 c6,.int .i64 c7,.slice c8 c0.length d0]) (t:=39) ?hr ?_;(case hd=>rfl);(case hg=>rfl);(case hr=>first|(go_simp;done)|(go_simp;rfl));intro a2 hg w5 hbox hb;have a6:=zzm (zzh (g:=a0) (o:=.cells #[.bool a3,.bool a4,.int .i64 a9,.int .i64 b0,.int .i64 b1,.slice b2 a5.length b3] 39 (0,0)) (zzE a1.out) hb);have a7:=zzm (zzp zzh2 hb);have a8:=zzm (hbox);have b4:=zzm ((by rw [hg];exact (zzo zzh2):w.heap.size≤a2));have c1:=zzm ((by rw [hg];exact (zzo zzh2):w.heap.size≤a2));have c2:=zzm ((by rw [hg];exact Nat.ne_of_lt (blk_lt (g:=a0) (o:=.cells #[.bool a3,.bool a4,.int .i64 a9,.int .i64 b0,.int .i64 b1,.slice b2 a5.length b3] 39 (0,0)) (zzE a1.out)):a0≠a2));have c4:=zzm ((by rw [hg];exact Nat.ne_of_gt (blk_lt (g:=a0) (o:=.cells #[.bool a3,.bool a4,.int .i64 a9,.int .i64 b0,.int .i64 b1,.slice b2 a5.length b3] 39 (0,0)) (zzE a1.out)):a2≠a0));clear a1 HB;have a1:=a6;have HB:=a7;have b7:=a8;have d3:=b4;have d4:=c1;have b5:=c2;have b6:=c4;clear a6 a7 a8 b4 c1 c2 c4 hb hbox hg;have C1:=b5.out;have C2:=b6.out;obtain ⟨y2,y3,y4,y5,y6,y7,y8,y9,z0,z1,z2,z3⟩:=zzc6 a1.out;obtain ⟨z4,z5,z6,z7,z8,z9,A0,A1,A2,A3,A4,A5⟩:=zzc6 b7.out));go_ret;exact ⟨zzR,zzh3⟩
 ·
  rw [if_neg c3] at H;have g5:(a3 != b8)=false:=by simpa using c3
  (try (have g6:decide (a3=b8)=true:=by simpa using c3))
  (try (have g7:(a3==b8)=true:=by simpa using c3));clear c3;by_cases c9:(a4 != b9)=true
  ·
   rw [if_pos c9] at H;have g8:(a4 != b9)=true:=c9
   (try (have g9:decide (a4=b9)=false:=by simpa using c9))
   (try (have h0:(a4==b9)=false:=by simpa using c9))
   (try (have C3:¬ (a4=b9):=by simpa using c9));clear c9;obtain rfl:=Option.some.inj H;go_enter Try.func22,Try.ntmps22;go_wp2_with (first|((with_reducible refine gate_dst (N:=2) rfl ?_);refine box_event ?hg (N:=2) ?hd (cs:=#[.bool a3,.bool a4,.int .i64 a9,.int .i64 b0,.int .i64 b1,.slice b2 a5.length b3]) (t:=39) ?hr ?_;(case hd=>rfl);(case hg=>rfl);(case hr=>first|(go_simp;done)|(go_simp;rfl));intro a0 hg C4 hbox hb;have a6:=zzm (zzp zzh1 hb);have a7:=zzm (hbox);have a8:=zzm ((by rw [hg];exact (zzo zzh1):w.heap.size≤a0));have b4:=zzm ((by rw [hg];exact (zzo zzh1):w.heap.size≤a0));clear HB;have HB:=a6;have a1:=a7;have d1:=a8;have d2:=b4;clear a6 a7 a8 b4 hb hbox hg)|((with_reducible refine gate_dst (N:=3) rfl ?_);refine box_event ?hg (N:=3) ?hd (cs:=#[.bool b8,.bool b9,.int .i64 c5,.int .i64 c6,.int .i64 c7,.slice c8 c0.length d0]) (t:=39) ?hr ?_;(case hd=>rfl);(case hg=>rfl);(case hr=>first|(go_simp;done)|(go_simp;rfl));intro a2 hg C5 hbox hb;have a6:=zzm (zzh (g:=a0) (o:=.cells #[.bool a3,.bool a4,.int .i64 a9,.int .i64 b0,.int .i64 b1,.slice b2 a5.length b3] 39 (0,0)) (zzE a1.out) hb);have a7:=zzm (zzp zzh2 hb);have a8:=zzm (hbox);have b4:=zzm ((by rw [hg];exact (zzo zzh2):w.heap.size≤a2));have c1:=zzm ((by rw [hg];exact (zzo zzh2):w.heap.size≤a2));have c2:=zzm ((by rw [hg];exact Nat.ne_of_lt (blk_lt (g:=a0) (o:=.cells #[.bool a3,.bool a4,.int .i64 a9,.int .i64 b0,.int .i64 b1,.slice b2 a5.length b3] 39 (0,0)) (zzE a1.out)):a0≠a2));have c4:=zzm ((by rw [hg];exact Nat.ne_of_gt (blk_lt (g:=a0) (o:=.cells #[.bool a3,.bool a4,.int .i64 a9,.int .i64 b0,.int .i64 b1,.slice b2 a5.length b3] 39 (0,0)) (zzE a1.out)):a2≠a0));clear a1 HB;have a1:=a6;have HB:=a7;have b7:=a8;have d3:=b4;have d4:=c1;have b5:=c2;have b6:=c4;clear a6 a7 a8 b4 c1 c2 c4 hb hbox hg;have A6:=b5.out;have A7:=b6.out;obtain ⟨h1,h2,h3,h4,h5,h6,h7,h8,h9,j3,j4,j5⟩:=zzc6 a1.out;obtain ⟨j6,j7,j8,j9,k0,k1,k2,k3,k4,k5,k6,k7⟩:=zzc6 b7.out));go_ret;exact ⟨zzR,zzh3⟩
  ·
   rw [if_neg c9] at H;have g8:(a4 != b9)=false:=by simpa using c9
   (try (have g9:decide (a4=b9)=true:=by simpa using c9))
   (try (have h0:(a4==b9)=true:=by simpa using c9));clear c9;by_cases d5:a9=c5
   ·
    rw [if_pos d5] at H;obtain ⟨e8,e9⟩:=zzQ d5;clear d5;by_cases d6:b0=c6
    ·
     rw [if_pos d6] at H;obtain ⟨g0,g1⟩:=zzQ d6;clear d6;by_cases d7:b1=c7
     ·
      rw [if_pos d7] at H;obtain ⟨g2,g3⟩:=zzQ d7;clear d7;obtain ⟨d8,g4,H⟩:=zzG H;by_cases e7:d8=true
      ·
       subst e7;replace H:=zzIt H;obtain rfl:=Option.some.inj H;go_enter Try.func22,Try.ntmps22;go_wp2_with (first|((with_reducible refine gate_dst (N:=2) rfl ?_);refine box_event ?hg (N:=2) ?hd (cs:=#[.bool a3,.bool a4,.int .i64 a9,.int .i64 b0,.int .i64 b1,.slice b2 a5.length b3]) (t:=39) ?hr ?_;(case hd=>rfl);(case hg=>rfl);(case hr=>first|(go_simp;done)|(go_simp;rfl));intro a0 hg C6 hbox hb;have a6:=zzm (zzp zzh1 hb);have a7:=zzm (hbox);have a8:=zzm ((by rw [hg];exact (zzo zzh1):w.heap.size≤a0));have b4:=zzm ((by rw [hg];exact (zzo zzh1):w.heap.size≤a0));clear HB;have HB:=a6;have a1:=a7;have d1:=a8;have d2:=b4;clear a6 a7 a8 b4 hb hbox hg)|((with_reducible refine gate_dst (N:=3) rfl ?_);refine box_event ?hg (N:=3) ?hd (cs:=#[.bool b8,.bool b9,.int .i64 c5,.int .i64 c6,.int .i64 c7,.slice c8 c0.length d0]) (t:=39) ?hr ?_;(case hd=>rfl);(case hg=>rfl);(case hr=>first|(go_simp;done)|(go_simp;rfl));intro a2 hg C7 hbox hb;have a6:=zzm (zzh (g:=a0) (o:=.cells #[.bool a3,.bool a4,.int .i64 a9,.int .i64 b0,.int .i64 b1,.slice b2 a5.length b3] 39 (0,0)) (zzE a1.out) hb);have a7:=zzm (zzp zzh2 hb);have a8:=zzm (hbox);have b4:=zzm ((by rw [hg];exact (zzo zzh2):w.heap.size≤a2));have c1:=zzm ((by rw [hg];exact (zzo zzh2):w.heap.size≤a2));have c2:=zzm ((by rw [hg];exact Nat.ne_of_lt (blk_lt (g:=a0) (o:=.cells #[.bool a3,.bool a4,.int .i64 a9,.int .i64 b0,.int .i64 b1,.slice b2 a5.length b3] 39 (0,0)) (zzE a1.out)):a0≠a2));have c4:=zzm ((by rw [hg];exact Nat.ne_of_gt (blk_lt (g:=a0) (o:=.cells #[.bool a3,.bool a4,.int .i64 a9,.int .i64 b0,.int .i64 b1,.slice b2 a5.length b3] 39 (0,0)) (zzE a1.out)):a2≠a0));clear a1 HB;have a1:=a6;have HB:=a7;have b7:=a8;have d3:=b4;have d4:=c1;have b5:=c2;have b6:=c4;clear a6 a7 a8 b4 c1 c2 c4 hb hbox hg;have A8:=b5.out;have A9:=b6.out;obtain ⟨k8,k9,l2,l3,l4,l5,l6,l7,l8,l9,m0,m1⟩:=zzc6 a1.out;obtain ⟨m2,m3,m4,m5,m6,m7,m8,m9,n0,n1,n2,n3⟩:=zzc6 b7.out)|((with_reducible refine gate_callee (f:=40) rfl ?_);refine goesL_ (some 34) rfl rfl Try.func40 (by kernel_rfl) rfl #[.slice b2 a5.length b3,.slice c8 c0.length d0] rfl zzM2 ?_;(with_reducible refine (Qj.calls k _ _ a5 _ _ c0 true _ ?side1 ?side2 ?side3 ?side4 g4.out).mono ?_);(case side1=>exact zzcb e3 HB);(case side2=>exact e4.out);(case side3=>exact zzcb e5 HB);(case side4=>exact e6.out);rintro e C8 ⟨rfl,hb⟩;refine ⟨_,rfl,?_⟩;have a6:=zzm (zzh (g:=a0) (o:=.cells #[.bool a3,.bool a4,.int .i64 a9,.int .i64 b0,.int .i64 b1,.slice b2 a5.length b3] 39 (0,0)) (zzE a1.out) hb);have a7:=zzm (zzh (g:=a2) (o:=.cells #[.bool b8,.bool b9,.int .i64 c5,.int .i64 c6,.int .i64 c7,.slice c8 c0.length d0] 39 (0,0)) (zzE b7.out) hb);have a8:=zzm (zzp zzh2 hb);clear a1 b7 HB;have a1:=a6;have b7:=a7;have HB:=a8;clear a6 a7 a8;(try clear hb);(try clear hb2);(try clear hk);(try clear hi)));go_ret;exact ⟨zzR,zzh3⟩
      ·
       replace e7:=Bool.eq_false_iff.mpr e7;subst e7;replace H:=zzIf H;obtain rfl:=Option.some.inj H;go_enter Try.func22,Try.ntmps22;go_wp2_with (first|((with_reducible refine gate_dst (N:=2) rfl ?_);refine box_event ?hg (N:=2) ?hd (cs:=#[.bool a3,.bool a4,.int .i64 a9,.int .i64 b0,.int .i64 b1,.slice b2 a5.length b3]) (t:=39) ?hr ?_;(case hd=>rfl);(case hg=>rfl);(case hr=>first|(go_simp;done)|(go_simp;rfl));intro a0 hg C9 hbox hb;have a6:=zzm (zzp zzh1 hb);have a7:=zzm (hbox);have a8:=zzm ((by rw [hg];exact (zzo zzh1):w.heap.size≤a0));have b4:=zzm ((by rw [hg];exact (zzo zzh1):w.heap.size≤a0));clear HB;have HB:=a6;have a1:=a7;have d1:=a8;have d2:=b4;clear a6 a7 a8 b4 hb hbox hg)|((with_reducible refine gate_dst (N:=3) rfl ?_);refine box_event ?hg (N:=3) ?hd (cs:=#[.bool b8,.bool b9,.int .i64 c5,.int .i64 c6,.int .i64 c7,.slice c8 c0.length d0]) (t:=39) ?hr ?_;(case hd=>rfl);(case hg=>rfl);(case hr=>first|(go_simp;done)|(go_simp;rfl));intro a2 hg D0 hbox hb;have a6:=zzm (zzh (g:=a0) (o:=.cells #[.bool a3,.bool a4,.int .i64 a9,.int .i64 b0,.int .i64 b1,.slice b2 a5.length b3] 39 (0,0)) (zzE a1.out) hb);have a7:=zzm (zzp zzh2 hb);have a8:=zzm (hbox);have b4:=zzm ((by rw [hg];exact (zzo zzh2):w.heap.size≤a2));have c1:=zzm ((by rw [hg];exact (zzo zzh2):w.heap.size≤a2));have c2:=zzm ((by rw [hg];exact Nat.ne_of_lt (blk_lt (g:=a0) (o:=.cells #[.bool a3,.bool a4,.int .i64 a9,.int .i64 b0,.int .i64 b1,.slice b2 a5.length b3] 39 (0,0)) (zzE a1.out)):a0≠a2));have c4:=zzm ((by rw [hg];exact Nat.ne_of_gt (blk_lt (g:=a0) (o:=.cells #[.bool a3,.bool a4,.int .i64 a9,.int .i64 b0,.int .i64 b1,.slice b2 a5.length b3] 39 (0,0)) (zzE a1.out)):a2≠a0));clear a1 HB;have a1:=a6;have HB:=a7;have b7:=a8;have d3:=b4;have d4:=c1;have b5:=c2;have b6:=c4;clear a6 a7 a8 b4 c1 c2 c4 hb hbox hg;have B0:=b5.out;have B1:=b6.out;obtain ⟨n4,n5,n6,n7,n8,n9,o0,o1,o2,o3,o4,o5⟩:=zzc6 a1.out;obtain ⟨o6,o7,o8,o9,p0,p1,p2,p3,p4,p5,p6,p7⟩:=zzc6 b7.out)|((with_reducible refine gate_callee (f:=40) rfl ?_);refine goesL_ (some 34) rfl rfl Try.func40 (by kernel_rfl) rfl #[.slice b2 a5.length b3,.slice c8 c0.length d0] rfl zzM2 ?_;(with_reducible refine (Qj.calls k _ _ a5 _ _ c0 false _ ?side1 ?side2 ?side3 ?side4 g4.out).mono ?_);(case side1=>exact zzcb e3 HB);(case side2=>exact e4.out);(case side3=>exact zzcb e5 HB);(case side4=>exact e6.out);rintro e D1 ⟨rfl,hb⟩;refine ⟨_,rfl,?_⟩;have a6:=zzm (zzh (g:=a0) (o:=.cells #[.bool a3,.bool a4,.int .i64 a9,.int .i64 b0,.int .i64 b1,.slice b2 a5.length b3] 39 (0,0)) (zzE a1.out) hb);have a7:=zzm (zzh (g:=a2) (o:=.cells #[.bool b8,.bool b9,.int .i64 c5,.int .i64 c6,.int .i64 c7,.slice c8 c0.length d0] 39 (0,0)) (zzE b7.out) hb);have a8:=zzm (zzp zzh2 hb);clear a1 b7 HB;have a1:=a6;have b7:=a7;have HB:=a8;clear a6 a7 a8;(try clear hb);(try clear hb2);(try clear hk);(try clear hi)));go_ret;exact ⟨zzR,zzh3⟩
     ·
      rw [if_neg d7] at H;obtain ⟨g2,g3⟩:=zzY d7;obtain rfl:=Option.some.inj H;go_enter Try.func22,Try.ntmps22;go_wp2_with (first|((with_reducible refine gate_dst (N:=2) rfl ?_);refine box_event ?hg (N:=2) ?hd (cs:=#[.bool a3,.bool a4,.int .i64 a9,.int .i64 b0,.int .i64 b1,.slice b2 a5.length b3]) (t:=39) ?hr ?_;(case hd=>rfl);(case hg=>rfl);(case hr=>first|(go_simp;done)|(go_simp;rfl));intro a0 hg D2 hbox hb;have a6:=zzm (zzp zzh1 hb);have a7:=zzm (hbox);have a8:=zzm ((by rw [hg];exact (zzo zzh1):w.heap.size≤a0));have b4:=zzm ((by rw [hg];exact (zzo zzh1):w.heap.size≤a0));clear HB;have HB:=a6;have a1:=a7;have d1:=a8;have d2:=b4;clear a6 a7 a8 b4 hb hbox hg)|((with_reducible refine gate_dst (N:=3) rfl ?_);refine box_event ?hg (N:=3) ?hd (cs:=#[.bool b8,.bool b9,.int .i64 c5,.int .i64 c6,.int .i64 c7,.slice c8 c0.length d0]) (t:=39) ?hr ?_;(case hd=>rfl);(case hg=>rfl);(case hr=>first|(go_simp;done)|(go_simp;rfl));intro a2 hg D3 hbox hb;have a6:=zzm (zzh (g:=a0) (o:=.cells #[.bool a3,.bool a4,.int .i64 a9,.int .i64 b0,.int .i64 b1,.slice b2 a5.length b3] 39 (0,0)) (zzE a1.out) hb);have a7:=zzm (zzp zzh2 hb);have a8:=zzm (hbox);have b4:=zzm ((by rw [hg];exact (zzo zzh2):w.heap.size≤a2));have c1:=zzm ((by rw [hg];exact (zzo zzh2):w.heap.size≤a2));have c2:=zzm ((by rw [hg];exact Nat.ne_of_lt (blk_lt (g:=a0) (o:=.cells #[.bool a3,.bool a4,.int .i64 a9,.int .i64 b0,.int .i64 b1,.slice b2 a5.length b3] 39 (0,0)) (zzE a1.out)):a0≠a2));have c4:=zzm ((by rw [hg];exact Nat.ne_of_gt (blk_lt (g:=a0) (o:=.cells #[.bool a3,.bool a4,.int .i64 a9,.int .i64 b0,.int .i64 b1,.slice b2 a5.length b3] 39 (0,0)) (zzE a1.out)):a2≠a0));clear a1 HB;have a1:=a6;have HB:=a7;have b7:=a8;have d3:=b4;have d4:=c1;have b5:=c2;have b6:=c4;clear a6 a7 a8 b4 c1 c2 c4 hb hbox hg;have B2:=b5.out;have B3:=b6.out;obtain ⟨p8,p9,q0,q1,q2,q3,q4,q5,q6,q7,q8,q9⟩:=zzc6 a1.out;obtain ⟨r0,r1,r2,r3,r4,r5,r6,r7,r8,r9,s0,s1⟩:=zzc6 b7.out));go_ret;exact ⟨zzR,zzh3⟩
    ·
     rw [if_neg d6] at H;obtain ⟨g0,g1⟩:=zzY d6;obtain rfl:=Option.some.inj H;go_enter Try.func22,Try.ntmps22;go_wp2_with (first|((with_reducible refine gate_dst (N:=2) rfl ?_);refine box_event ?hg (N:=2) ?hd (cs:=#[.bool a3,.bool a4,.int .i64 a9,.int .i64 b0,.int .i64 b1,.slice b2 a5.length b3]) (t:=39) ?hr ?_;(case hd=>rfl);(case hg=>rfl);(case hr=>first|(go_simp;done)|(go_simp;rfl));intro a0 hg D4 hbox hb;have a6:=zzm (zzp zzh1 hb);have a7:=zzm (hbox);have a8:=zzm ((by rw [hg];exact (zzo zzh1):w.heap.size≤a0));have b4:=zzm ((by rw [hg];exact (zzo zzh1):w.heap.size≤a0));clear HB;have HB:=a6;have a1:=a7;have d1:=a8;have d2:=b4;clear a6 a7 a8 b4 hb hbox hg)|((with_reducible refine gate_dst (N:=3) rfl ?_);refine box_event ?hg (N:=3) ?hd (cs:=#[.bool b8,.bool b9,.int .i64 c5,.int .i64 c6,.int .i64 c7,.slice c8 c0.length d0]) (t:=39) ?hr ?_;(case hd=>rfl);(case hg=>rfl);(case hr=>first|(go_simp;done)|(go_simp;rfl));intro a2 hg D5 hbox hb;have a6:=zzm (zzh (g:=a0) (o:=.cells #[.bool a3,.bool a4,.int .i64 a9,.int .i64 b0,.int .i64 b1,.slice b2 a5.length b3] 39 (0,0)) (zzE a1.out) hb);have a7:=zzm (zzp zzh2 hb);have a8:=zzm (hbox);have b4:=zzm ((by rw [hg];exact (zzo zzh2):w.heap.size≤a2));have c1:=zzm ((by rw [hg];exact (zzo zzh2):w.heap.size≤a2));have c2:=zzm ((by rw [hg];exact Nat.ne_of_lt (blk_lt (g:=a0) (o:=.cells #[.bool a3,.bool a4,.int .i64 a9,.int .i64 b0,.int .i64 b1,.slice b2 a5.length b3] 39 (0,0)) (zzE a1.out)):a0≠a2));have c4:=zzm ((by rw [hg];exact Nat.ne_of_gt (blk_lt (g:=a0) (o:=.cells #[.bool a3,.bool a4,.int .i64 a9,.int .i64 b0,.int .i64 b1,.slice b2 a5.length b3] 39 (0,0)) (zzE a1.out)):a2≠a0));clear a1 HB;have a1:=a6;have HB:=a7;have b7:=a8;have d3:=b4;have d4:=c1;have b5:=c2;have b6:=c4;clear a6 a7 a8 b4 c1 c2 c4 hb hbox hg;have B5:=b5.out;have B7:=b6.out;obtain ⟨s2,s3,s4,s5,s6,s7,s8,s9,t0,t1,t2,t3⟩:=zzc6 a1.out;obtain ⟨t4,t5,t6,t7,t8,t9,v0,v1,v2,v3,v4,v5⟩:=zzc6 b7.out));go_ret;exact ⟨zzR,zzh3⟩
   ·
    rw [if_neg d5] at H;obtain ⟨e8,e9⟩:=zzY d5;obtain rfl:=Option.some.inj H;go_enter Try.func22,Try.ntmps22;go_wp2_with (first|((with_reducible refine gate_dst (N:=2) rfl ?_);refine box_event ?hg (N:=2) ?hd (cs:=#[.bool a3,.bool a4,.int .i64 a9,.int .i64 b0,.int .i64 b1,.slice b2 a5.length b3]) (t:=39) ?hr ?_;(case hd=>rfl);(case hg=>rfl);(case hr=>first|(go_simp;done)|(go_simp;rfl));intro a0 hg D6 hbox hb;have a6:=zzm (zzp zzh1 hb);have a7:=zzm (hbox);have a8:=zzm ((by rw [hg];exact (zzo zzh1):w.heap.size≤a0));have b4:=zzm ((by rw [hg];exact (zzo zzh1):w.heap.size≤a0));clear HB;have HB:=a6;have a1:=a7;have d1:=a8;have d2:=b4;clear a6 a7 a8 b4 hb hbox hg)|((with_reducible refine gate_dst (N:=3) rfl ?_);refine box_event ?hg (N:=3) ?hd (cs:=#[.bool b8,.bool b9,.int .i64 c5,.int .i64 c6,.int .i64 c7,.slice c8 c0.length d0]) (t:=39) ?hr ?_;(case hd=>rfl);(case hg=>rfl);(case hr=>first|(go_simp;done)|(go_simp;rfl));intro a2 hg D7 hbox hb;have a6:=zzm (zzh (g:=a0) (o:=.cells #[.bool a3,.bool a4,.int .i64 a9,.int .i64 b0,.int .i64 b1,.slice b2 a5.length b3] 39 (0,0)) (zzE a1.out) hb);have a7:=zzm (zzp zzh2 hb);have a8:=zzm (hbox);have b4:=zzm ((by rw [hg];exact (zzo zzh2):w.heap.size≤a2));have c1:=zzm ((by rw [hg];exact (zzo zzh2):w.heap.size≤a2));have c2:=zzm ((by rw [hg];exact Nat.ne_of_lt (blk_lt (g:=a0) (o:=.cells #[.bool a3,.bool a4,.int .i64 a9,.int .i64 b0,.int .i64 b1,.slice b2 a5.length b3] 39 (0,0)) (zzE a1.out)):a0≠a2));have c4:=zzm ((by rw [hg];exact Nat.ne_of_gt (blk_lt (g:=a0) (o:=.cells #[.bool a3,.bool a4,.int .i64 a9,.int .i64 b0,.int .i64 b1,.slice b2 a5.length b3] 39 (0,0)) (zzE a1.out)):a2≠a0));clear a1 HB;have a1:=a6;have HB:=a7;have b7:=a8;have d3:=b4;have d4:=c1;have b5:=c2;have b6:=c4;clear a6 a7 a8 b4 c1 c2 c4 hb hbox hg;have B8:=b5.out;have B9:=b6.out;obtain ⟨v6,v7,v8,v9,w0,w1,w2,w3,w6,w7,w8,w9⟩:=zzc6 a1.out;obtain ⟨x0,x1,x2,x3,x4,x5,x6,x7,x8,x9,y0,y1⟩:=zzc6 b7.out));go_ret;exact ⟨zzR,zzh3⟩

set_option linter.unusedVariables false
set_option linter.unusedSimpArgs false
def Qe.l0:Nat→List (S39)→List (S39)→Int→Option (Bool)
 | 0,_,_,_=>none
 | k+1,x0,x1,x5=>if x5 < (x0.length:Int) then (if 0≤x5 then (if x5 < (x1.length:Int) then ((Ru.f k ((Qa x0 x5).f0) ((Qa x0 x5).f1) ((Qa x0 x5).f2) ((Qa x0 x5).f3) ((Qa x0 x5).f4) ((Qa x0 x5).f5) ((Qa x1 x5).f0) ((Qa x1 x5).f1) ((Qa x1 x5).f2) ((Qa x1 x5).f3) ((Qa x1 x5).f4) ((Qa x1 x5).f5)).bind fun t337=>(if t337=true then (Qe.l0 k x0 x1 (wrap64 (x5+1))) else (some false))) else (none)) else (none)) else (some true)
def Qe.f (k:Nat) (l0:List (S39)) (l1:List (S39)):Option (Bool):=if (l0.length:Int)=(l1.length:Int) then (Qe.l0 k l0 l1 0) else (some false)
def Qe.T6:Bool×List (List Nat×List Nat):=(true,[([],[]),([],[]),([0,1],[0,1]),([2],[2]),([],[]),([],[]),([4,5],[4,5]),([6],[6]),([3,7],[3,7]),([8],[8])])
def Qe.B6:List Nat:=[0,0,3,7,0,0,48,112,255,511]
theorem Qe.tab6:rtab .any (opsOf Try.f8 6)=Qe.T6:=by kernel_rfl
theorem Qe.bits6:waitsOk Qe.T6.2 Qe.B6=true:=by kernel_rfl
set_option maxHeartbeats 8000000 in
theorem Qe.calls (k:Nat) (A0:Option Addr) (c0:Nat) (l0:List (S39)) (A1:Option Addr) (c1:Nat) (l1:List (S39)) (r:Bool) (w:World) (g9:Kd.C k39 w A0 l0.length l0) (h0:l0.length≤c0) (h1:Kd.C k39 w A1 l1.length l1) (h2:l1.length≤c1) (h:Qe.f k l0 l1=some r) :
  Calls Try.prog 8 #[.slice A0 l0.length c0,.slice A1 l1.length c1] w fun e w'=>e = .returned (.bool r)∧Below w.heap.size w w':=by
 have hu39:=Try.underlying39;have h3:=zzm g9;have h9:=zzm h0;clear g9 h0;have h4:=zzm h1;have j3:=zzm h2;clear h1 h2;have HB:=zzm (Below.refl w.heap.size w);have H:(if (l0.length:Int)=(l1.length:Int) then (Qe.l0 k l0 l1 0) else (some false))=some r:=h;clear h;by_cases c3:(l0.length:Int)=(l1.length:Int)
 ·
  rw [if_pos c3] at H;obtain ⟨g6,g7⟩:=zzQ c3;have g8:(l0.length==l1.length)=true:=by first|simpa using c3|(simp at c3 ⊢;omega)
  clear c3;have H':=zzm H;clear H;go_enter Try.func8,Try.ntmps8;go_wp2;go_loopg [5] k (fun kq v5 w'=>∃ (a0:Int),v5 = .int .i64 a0∧Aside0 (Qe.l0 kq l0 l1 a0=some r)∧Aside0 (kq≤k)∧Aside0 (Below w.heap.size w w'))
  case atStart=>exact ⟨(0),(by first|rfl|(simp;done)|(simp [*];done)),H',⟨Nat.le_refl _⟩,⟨zzh1⟩⟩
  case round=>
   clear H';try clear c1
   try clear p2
   try clear c3
   try clear g6
   try clear g7
   try clear g8
   obtain ⟨a0,rfl,HA,HK1,HB⟩:=hrel;cases gk with
   | zero=>exact absurd HA.out (by simp [Qe.l0])
   | succ k1=>
    have H:=HA.out;clear HA;simp only [Qe.l0] at H;by_cases c4:a0 < (l0.length:Int)
    ·
     rw [if_pos c4] at H;have h5:decide (a0 < (l0.length:Int))=true:=decide_eq_true c4;clear c4;by_cases c5 : 0≤a0
     ·
      rw [if_pos c5] at H;have h7:decide (0≤a0)=true:=decide_eq_true c5;clear c5;by_cases c6:a0 < (l1.length:Int)
      ·
       rw [if_pos c6] at H;have h8:decide (a0 < (l1.length:Int))=true:=decide_eq_true c6;clear c6;obtain ⟨h6,A7,H⟩:=zzG H;by_cases c8:h6=true
       ·
        subst c8;replace H:=zzIt H;have H':=zzm H;clear H;try go_wp2
        have e2:=zzm (zzc HB.out);clear HB;have HB:=e2;clear e2;have e7 : 0≤(a0:Int):=zzt;have e8:a0 < (l0.length:Int):=zzt;obtain ⟨a1,e3,e4,g4,a4,a5,a6,a7,a8,a9,b7,b8⟩:=Qp h3.out a0 e7 e8;have b9:=a9;have c2:=a8;have c7:=a7;have c9:=a6;have d0:=a5;have d1:=a4;cases g4;replace a4:=zzx HB.out a4;replace a5:=zzx HB.out a5;replace a6:=zzx HB.out a6;replace a7:=zzx HB.out a7;replace a8:=zzx HB.out a8;replace a9:=zzx HB.out a9;have d2:=zzm b8;have g1:=zzm b7;clear b8 b7;replace e7:=eq_true e7;replace e8:=eq_true e8;have e9 : 0≤(a0:Int):=zzt;have g0:a0 < (l1.length:Int):=zzt;obtain ⟨a2,e5,e6,g5,b0,b1,b2,b3,b4,b5,d3,d4⟩:=Qp h4.out a0 e9 g0;have d5:=b5;have d6:=b4;have d7:=b3;have d8:=b2;have d9:=b1;have e0:=b0;cases g5;replace b0:=zzx HB.out b0;replace b1:=zzx HB.out b1;replace b2:=zzx HB.out b2;replace b3:=zzx HB.out b3;replace b4:=zzx HB.out b4;replace b5:=zzx HB.out b5;have e1:=zzm d4;have g2:=zzm d3;clear d4 d3;replace e9:=eq_true e9;replace g0:=eq_true g0;refine start_ (n:=10) (S:=fun w'=>w'.cell? (a1.add ((a0).toNat * 6))=some (.bool ((Qa l0 a0).f0))∧w'.cell? ⟨(a1.add ((a0).toNat * 6)).block,(a1.add ((a0).toNat * 6)).off+1,none⟩=some (.bool ((Qa l0 a0).f1))∧w'.cell? ⟨(a1.add ((a0).toNat * 6)).block,(a1.add ((a0).toNat * 6)).off+2,none⟩=some (.int .i64 ((Qa l0 a0).f2))∧w'.cell? ⟨(a1.add ((a0).toNat * 6)).block,(a1.add ((a0).toNat * 6)).off+3,none⟩=some (.int .i64 ((Qa l0 a0).f3))∧w'.cell? ⟨(a1.add ((a0).toNat * 6)).block,(a1.add ((a0).toNat * 6)).off+4,none⟩=some (.int .i64 ((Qa l0 a0).f4))∧w'.cell? ⟨(a1.add ((a0).toNat * 6)).block,(a1.add ((a0).toNat * 6)).off+5,none⟩=some (.slice e3 ((Qa l0 a0).f5).length e4)∧w'.cell? (a2.add ((a0).toNat * 6))=some (.bool ((Qa l1 a0).f0))∧w'.cell? ⟨(a2.add ((a0).toNat * 6)).block,(a2.add ((a0).toNat * 6)).off+1,none⟩=some (.bool ((Qa l1 a0).f1))∧w'.cell? ⟨(a2.add ((a0).toNat * 6)).block,(a2.add ((a0).toNat * 6)).off+2,none⟩=some (.int .i64 ((Qa l1 a0).f2))∧w'.cell? ⟨(a2.add ((a0).toNat * 6)).block,(a2.add ((a0).toNat * 6)).off+3,none⟩=some (.int .i64 ((Qa l1 a0).f3))∧w'.cell? ⟨(a2.add ((a0).toNat * 6)).block,(a2.add ((a0).toNat * 6)).off+4,none⟩=some (.int .i64 ((Qa l1 a0).f4))∧w'.cell? ⟨(a2.add ((a0).toNat * 6)).block,(a2.add ((a0).toNat * 6)).off+5,none⟩=some (.slice e5 ((Qa l1 a0).f5).length e6)) (ds:=[]) (zzB 10 0) (by kernel_rfl) rfl rfl ⟨(zzx HB.out d1 :),(zzx HB.out d0 :),(zzx HB.out c9 :),(zzx HB.out c7 :),(zzx HB.out c2 :),(zzx HB.out b9 :),(zzx HB.out e0 :),(zzx HB.out d9 :),(zzx HB.out d8 :),(zzx HB.out d7 :),(zzx HB.out d6 :),(zzx HB.out d5 :)⟩ (fun b6=>?_);refine with_tabW Qe.tab6 Qe.bits6 (fun a3 g3=>?_);generalize wr.drew=w9 at HB d2 e1 a4 a5 a6 a7 a8 a9 b0 b1 b2 b3 b4 b5 b6 ⊢;refine zzP 0 17 10 1 a3 ?_
        refine zzP 1 18 10 3 a3 ?_
        refine zzP 2 19 10 7 a3 ?_
        refine zzP 4 21 10 23 a3 ?_
        refine zzP 5 22 10 55 a3 ?_
        refine zzP 6 23 10 119 a3 ?_
        refine zzT 3 20 10 127 a3 g3 b6 ?_
        refine zzT 7 24 10 255 a3 g3 b6 ?_
        refine one_ (i:=8) (N:=some 25) (zzB 10 511) rfl rfl (one_of a3.out (by kernel_rfl)) (by decide) (fun K hK=>?_);refine goes_ Try.func22 (by kernel_rfl) rfl #[.agg #[.bool ((Qa l0 a0).f0),.bool ((Qa l0 a0).f1),.int .i64 ((Qa l0 a0).f2),.int .i64 ((Qa l0 a0).f3),.int .i64 ((Qa l0 a0).f4),.slice e3 ((Qa l0 a0).f5).length e4],.agg #[.bool ((Qa l1 a0).f0),.bool ((Qa l1 a0).f1),.int .i64 ((Qa l1 a0).f2),.int .i64 ((Qa l1 a0).f3),.int .i64 ((Qa l1 a0).f4),.slice e5 ((Qa l1 a0).f5).length e6]] (by rfl) rfl rfl zzM2 ?_;with_reducible refine (Ru.calls k1 ((Qa l0 a0).f0) ((Qa l0 a0).f1) ((Qa l0 a0).f2) ((Qa l0 a0).f3) ((Qa l0 a0).f4) _ _ ((Qa l0 a0).f5) ((Qa l1 a0).f0) ((Qa l1 a0).f1) ((Qa l1 a0).f2) ((Qa l1 a0).f3) ((Qa l1 a0).f4) _ _ ((Qa l1 a0).f5) true _ ?side1 ?side2 ?side3 ?side4 A7.out).mono ?_
        (case side1=>exact zzcb d2 HB)
        (case side2=>exact g1.out)
        (case side3=>exact zzcb e1 HB)
        (case side4=>exact g2.out);rintro e j4 ⟨rfl,hb⟩;refine ⟨_,rfl,?_⟩;have e2:=zzm (zzp zzh1 hb);clear HB;have HB:=e2;clear e2
        (try clear hb)
        (try clear hb2)
        (try clear hk)
        (try clear hi);refine hK.out _ _ ⟨(zzx HB.out d1 :),(zzx HB.out d0 :),(zzx HB.out c9 :),(zzx HB.out c7 :),(zzx HB.out c2 :),(zzx HB.out b9 :),(zzx HB.out e0 :),(zzx HB.out d9 :),(zzx HB.out d8 :),(zzx HB.out d7 :),(zzx HB.out d6 :),(zzx HB.out d5 :)⟩ (fun b6=>?_);clear hK K;refine zzO 25 ?_
        refine zzP 9 26 10 1023 a3 ?_
        refine done_ (done_of a3.out (by kernel_rfl)) ?_;try go_wp2
        go_roundg k1
        case measure=>have:=HK1.out;omega
        case rel=>exact ⟨(wrap64 (a0+1)),(by first|rfl|(simp;done)|(simp [*];done)),H',⟨by have:=HK1.out;omega⟩,⟨zzh1⟩⟩
       ·
        replace c8:=Bool.eq_false_iff.mpr c8;subst c8;replace H:=zzIf H;obtain rfl:=Option.some.inj H;try go_wp2
        have e2:=zzm (zzc HB.out);clear HB;have HB:=e2;clear e2;have e7 : 0≤(a0:Int):=zzt;have e8:a0 < (l0.length:Int):=zzt;obtain ⟨a1,e3,e4,g4,a4,a5,a6,a7,a8,a9,b7,b8⟩:=Qp h3.out a0 e7 e8;have b9:=a9;have c2:=a8;have c7:=a7;have c9:=a6;have d0:=a5;have d1:=a4;cases g4;replace a4:=zzx HB.out a4;replace a5:=zzx HB.out a5;replace a6:=zzx HB.out a6;replace a7:=zzx HB.out a7;replace a8:=zzx HB.out a8;replace a9:=zzx HB.out a9;have d2:=zzm b8;have g1:=zzm b7;clear b8 b7;replace e7:=eq_true e7;replace e8:=eq_true e8;have e9 : 0≤(a0:Int):=zzt;have g0:a0 < (l1.length:Int):=zzt;obtain ⟨a2,e5,e6,g5,b0,b1,b2,b3,b4,b5,d3,d4⟩:=Qp h4.out a0 e9 g0;have d5:=b5;have d6:=b4;have d7:=b3;have d8:=b2;have d9:=b1;have e0:=b0;cases g5;replace b0:=zzx HB.out b0;replace b1:=zzx HB.out b1;replace b2:=zzx HB.out b2;replace b3:=zzx HB.out b3;replace b4:=zzx HB.out b4;replace b5:=zzx HB.out b5;have e1:=zzm d4;have g2:=zzm d3;clear d4 d3;replace e9:=eq_true e9;replace g0:=eq_true g0;refine start_ (n:=10) (S:=fun w'=>w'.cell? (a1.add ((a0).toNat * 6))=some (.bool ((Qa l0 a0).f0))∧w'.cell? ⟨(a1.add ((a0).toNat * 6)).block,(a1.add ((a0).toNat * 6)).off+1,none⟩=some (.bool ((Qa l0 a0).f1))∧w'.cell? ⟨(a1.add ((a0).toNat * 6)).block,(a1.add ((a0).toNat * 6)).off+2,none⟩=some (.int .i64 ((Qa l0 a0).f2))∧w'.cell? ⟨(a1.add ((a0).toNat * 6)).block,(a1.add ((a0).toNat * 6)).off+3,none⟩=some (.int .i64 ((Qa l0 a0).f3))∧w'.cell? ⟨(a1.add ((a0).toNat * 6)).block,(a1.add ((a0).toNat * 6)).off+4,none⟩=some (.int .i64 ((Qa l0 a0).f4))∧w'.cell? ⟨(a1.add ((a0).toNat * 6)).block,(a1.add ((a0).toNat * 6)).off+5,none⟩=some (.slice e3 ((Qa l0 a0).f5).length e4)∧w'.cell? (a2.add ((a0).toNat * 6))=some (.bool ((Qa l1 a0).f0))∧w'.cell? ⟨(a2.add ((a0).toNat * 6)).block,(a2.add ((a0).toNat * 6)).off+1,none⟩=some (.bool ((Qa l1 a0).f1))∧w'.cell? ⟨(a2.add ((a0).toNat * 6)).block,(a2.add ((a0).toNat * 6)).off+2,none⟩=some (.int .i64 ((Qa l1 a0).f2))∧w'.cell? ⟨(a2.add ((a0).toNat * 6)).block,(a2.add ((a0).toNat * 6)).off+3,none⟩=some (.int .i64 ((Qa l1 a0).f3))∧w'.cell? ⟨(a2.add ((a0).toNat * 6)).block,(a2.add ((a0).toNat * 6)).off+4,none⟩=some (.int .i64 ((Qa l1 a0).f4))∧w'.cell? ⟨(a2.add ((a0).toNat * 6)).block,(a2.add ((a0).toNat * 6)).off+5,none⟩=some (.slice e5 ((Qa l1 a0).f5).length e6)) (ds:=[]) (zzB 10 0) (by kernel_rfl) rfl rfl ⟨(zzx HB.out d1 :),(zzx HB.out d0 :),(zzx HB.out c9 :),(zzx HB.out c7 :),(zzx HB.out c2 :),(zzx HB.out b9 :),(zzx HB.out e0 :),(zzx HB.out d9 :),(zzx HB.out d8 :),(zzx HB.out d7 :),(zzx HB.out d6 :),(zzx HB.out d5 :)⟩ (fun b6=>?_);refine with_tabW Qe.tab6 Qe.bits6 (fun a3 g3=>?_);generalize wr.drew=j5 at HB d2 e1 a4 a5 a6 a7 a8 a9 b0 b1 b2 b3 b4 b5 b6 ⊢;refine zzP 0 17 10 1 a3 ?_
        refine zzP 1 18 10 3 a3 ?_
        refine zzP 2 19 10 7 a3 ?_
        refine zzP 4 21 10 23 a3 ?_
        refine zzP 5 22 10 55 a3 ?_
        refine zzP 6 23 10 119 a3 ?_
        refine zzT 3 20 10 127 a3 g3 b6 ?_
        refine zzT 7 24 10 255 a3 g3 b6 ?_
        refine one_ (i:=8) (N:=some 25) (zzB 10 511) rfl rfl (one_of a3.out (by kernel_rfl)) (by decide) (fun K hK=>?_);refine goes_ Try.func22 (by kernel_rfl) rfl #[.agg #[.bool ((Qa l0 a0).f0),.bool ((Qa l0 a0).f1),.int .i64 ((Qa l0 a0).f2),.int .i64 ((Qa l0 a0).f3),.int .i64 ((Qa l0 a0).f4),.slice e3 ((Qa l0 a0).f5).length e4],.agg #[.bool ((Qa l1 a0).f0),.bool ((Qa l1 a0).f1),.int .i64 ((Qa l1 a0).f2),.int .i64 ((Qa l1 a0).f3),.int .i64 ((Qa l1 a0).f4),.slice e5 ((Qa l1 a0).f5).length e6]] (by rfl) rfl rfl zzM2 ?_;with_reducible refine (Ru.calls k1 ((Qa l0 a0).f0) ((Qa l0 a0).f1) ((Qa l0 a0).f2) ((Qa l0 a0).f3) ((Qa l0 a0).f4) _ _ ((Qa l0 a0).f5) ((Qa l1 a0).f0) ((Qa l1 a0).f1) ((Qa l1 a0).f2) ((Qa l1 a0).f3) ((Qa l1 a0).f4) _ _ ((Qa l1 a0).f5) false _ ?side1 ?side2 ?side3 ?side4 A7.out).mono ?_
        (case side1=>exact zzcb d2 HB)
        (case side2=>exact g1.out)
        (case side3=>exact zzcb e1 HB)
        (case side4=>exact g2.out);rintro e j6 ⟨rfl,hb⟩;refine ⟨_,rfl,?_⟩;have e2:=zzm (zzp zzh1 hb);clear HB;have HB:=e2;clear e2
        (try clear hb)
        (try clear hb2)
        (try clear hk)
        (try clear hi);refine hK.out _ _ ⟨(zzx HB.out d1 :),(zzx HB.out d0 :),(zzx HB.out c9 :),(zzx HB.out c7 :),(zzx HB.out c2 :),(zzx HB.out b9 :),(zzx HB.out e0 :),(zzx HB.out d9 :),(zzx HB.out d8 :),(zzx HB.out d7 :),(zzx HB.out d6 :),(zzx HB.out d5 :)⟩ (fun b6=>?_);clear hK K;refine zzO 25 ?_
        refine zzP 9 26 10 1023 a3 ?_
        refine done_ (done_of a3.out (by kernel_rfl)) ?_;try go_wp2
        go_ret;exact ⟨zzR,zzh1⟩
      ·
       rw [if_neg c6] at H;exact absurd H (by simp)
     ·
      rw [if_neg c5] at H;exact absurd H (by simp)
    ·
     rw [if_neg c4] at H;have h5:decide (a0 < (l0.length:Int))=false:=decide_eq_false c4;clear c4;obtain rfl:=Option.some.inj H;go_wp2;go_ret;exact ⟨zzR,zzh1⟩
 ·
  rw [if_neg c3] at H;obtain ⟨g6,g7⟩:=zzY c3;have g8:(l0.length==l1.length)=false:=by first|simpa using c3|(simp at c3 ⊢;omega)
  obtain rfl:=Option.some.inj H;go_enter Try.func8,Try.ntmps8;go_wp2;go_ret;exact ⟨zzR,zzh1⟩

set_option linter.unusedVariables false
set_option linter.unusedSimpArgs false
def Q6.l0:Nat→List Int→Int→Int→Option (Int×List Int)
 | 0,_,_,_=>none
 | k+1,x0,x1,x5=>if x5 < (x0.length:Int) then (if 0≤x5 then (Q6.l0 k (x0.set (x5:Int).toNat x1) (wrap64 (x1+1)) (wrap64 (x5+1))) else (none)) else (some (x1,x0))
def Q6.f (k:Nat) (l0:List Int) (a1:Int):Option (Int×List Int):=Q6.l0 k l0 a1 0
set_option maxHeartbeats 8000000 in
theorem Q6.calls (k:Nat) (P0_:Nat→Prop) (u9000_:Value) (l0:List Int) (a1:Int) (r1:Int) (r2:List Int) (w0 w:World) (hB:Below w0.heap.size w0 w) (ho0:Kd.R (Kd.int .i64) 3 w w0.heap.size P0_ u9000_ l0) (h:Q6.f k l0 a1=some (r1,r2)) :
  Calls Try.prog 41 #[u9000_,.int .i64 a1] w fun e w'=>e = .returned (.int .i64 r1)∧Kd.R (Kd.int .i64) 3 w' w0.heap.size (fun k_=>(P0_ k_∨w.heap.size≤k_)) u9000_ r2∧Below w0.heap.size w0 w'∧Kept w w' (fun k_=>P0_ k_):=by
 have b0:=zzm (show Kd.R (Kd.int .i64) 3 w w0.heap.size (fun k_=>(P0_ k_∨w.heap.size≤k_)) u9000_ l0 from Kd.R_mono ho0 (fun k_ hk=>(.inl hk)));have HK:=zzm (Kept.refl w (fun k_=>P0_ k_));have HW0:=zzm hB.size;have HB:=zzm hB;clear hB;have H:(Q6.l0 k l0 a1 0)=some (r1,r2):=h;clear h;have H':=zzm H;clear H;go_enter Try.func41,Try.ntmps41;go_wp2;go_loopg [1,5] k (fun kq v1 v5 w'=>∃ (a3:List Int) (a4:Int) (a0:Int),v1 = .int .i64 a4∧v5 = .int .i64 a0∧Aside0 (Q6.l0 kq a3 a4 a0=some (r1,r2))∧Aside0 (kq≤k)∧Aside0 (Kd.R (Kd.int .i64) 3 w' w0.heap.size (fun k_=>(P0_ k_∨w.heap.size≤k_)) u9000_ a3)∧Aside0 (Kept w w' (fun k_=>P0_ k_))∧Aside0 (Below w0.heap.size w0 w'))
 case atStart=>exact ⟨(l0),(a1),(0),(by first|rfl|(simp;done)|(simp [*];done)),(by first|rfl|(simp;done)|(simp [*];done)),H',⟨Nat.le_refl _⟩,⟨by (with_reducible repeat (first|apply Kd.R_alloc|apply Kd.R_drewN|apply Kd.R_drew));exact b0.out⟩,⟨by repeat (first|(with_reducible first|exact HK.out|apply Kept.alloc|apply Kept.drewN|apply Kept.drew)|exact HK.out)⟩,⟨zzh1⟩⟩
 case round=>
  clear H';try clear p2
  obtain ⟨a3,a4,a0,rfl,rfl,HA,HK1,a2,HK,HB⟩:=hrel;cases gk with
  | zero=>exact absurd HA.out (by simp [Q6.l0])
  | succ k1=>
   have H:=HA.out;clear HA;simp only [Q6.l0] at H;by_cases c3:a0 < (a3.length:Int)
   ·
    rw [if_pos c3] at H;have a9:decide (a0 < (a3.length:Int))=true:=decide_eq_true c3;clear c3;by_cases c4 : 0≤a0
    ·
     rw [if_pos c4] at H;have b3:decide (0≤a0)=true:=decide_eq_true c4;clear c4;obtain ⟨y338,hy338⟩:∃ y_:List Int,y_=(a3.set (a0:Int).toNat a4):=⟨_,rfl⟩;replace H:(Q6.l0 k1 y338 (wrap64 (a4+1)) (wrap64 (a0+1)))=some (r1,r2):=by first|(rw [hy338];with_reducible exact H)|(have H2_:=(Option.bind_some _ _).symm.trans H;rw [hy338];with_reducible exact H2_)|(have H2_:=(Option.bind_some _ _).symm.trans H;with_reducible exact H2_)|with_reducible exact H|(rw [hy338];exact H)|exact H
     have Ny338:=zzm hy338;clear hy338;have H':=zzm H;clear H;obtain ⟨b4,b1,eo6⟩:=Kd.R_slice a2.out;subst eo6;have p5 : 0≤(a0:Int):=zzt;have q5:(a0:Int) < ((a3.length:Int):Int):=zzt;obtain ⟨go5,b5,eo5,a5,gl5,cl5,HG5⟩:=Kd.R_form a2.out (by omega)
     (first|cases eo5|(injection eo5 with ea_ en_ ec_;(first|subst ea_|(injection ea_ with ea_;subst ea_));subst ec_;clear en_));have GB5:=zzm a5;have GG5:=zzm HG5;clear a5 gl5 HG5;have HMgo5:=zzm (show (P0_ go5∨w.heap.size≤go5) from (a2.out.1 _ rfl));obtain ⟨b2,hf5_0⟩:=Kd.R_celln 0 a2.out (a0:Int) p5 q5;replace p5:=eq_true p5;replace q5:=eq_true q5;have HP7:=Kd.R_putg a2.out (a0:Int) a4;go_wp2_with (first|((with_reducible refine gate_store (t:=3) (p:=15) rfl ?_);refine store_event (t:=3) (p:=15) (v:=?vo_w8) (w1:=(wr.setCell ⟨go5,(a0:Int).toNat,none⟩ (.int .i64 a4))) ?hg ?ho ?hn ?hr ?_;(case ho=>rfl);(case hg=>rfl);(case hn=>rfl);(case hr=>first|(go_simp;done)|(go_simp;rfl));intro w8 hw;have hg:wr.grownBy w8 (some go5):=(by rw [hw];exact HP7.2);have hp_:Kd.R (Kd.int .i64) 3 w8 w0.heap.size (fun k_=>(P0_ k_∨w.heap.size≤k_)) (.slice (some ⟨go5,0,none⟩) a3.length b1) y338:=(by rw [hw,Ny338.out];exact HP7.1);clear HP7;have a6:=zzm (hp_);have a7:=zzm ((by rw [hw];exact zzd (HB.out) GB5.out:Below w0.heap.size w0 w8));have a8:=zzm (Kept.of_grown (S:=(fun k_=>P0_ k_)) hg (by repeat (first|(with_reducible first|exact HK.out|apply Kept.alloc|apply Kept.drewN|apply Kept.drew)|exact HK.out)) (fun k_ e_=>(a2.out.1 k_ e_)));clear a2 HB HK;have a2:=a6;have HB:=a7;have HK:=a8;clear a6 a7 a8 hg hw hp_));go_roundg k1
     case measure=>have:=HK1.out;omega
     case rel=>exact ⟨(y338),(wrap64 (a4+1)),(wrap64 (a0+1)),(by first|rfl|(simp;done)|(simp [*];done)),(by first|rfl|(simp;done)|(simp [*];done)),H',⟨by have:=HK1.out;omega⟩,⟨by (with_reducible repeat (first|apply Kd.R_alloc|apply Kd.R_drewN|apply Kd.R_drew));exact a2.out⟩,⟨by repeat (first|(with_reducible first|exact HK.out|apply Kept.alloc|apply Kept.drewN|apply Kept.drew)|exact HK.out)⟩,⟨zzh1⟩⟩
    ·
     rw [if_neg c4] at H;exact absurd H (by simp)
   ·
    rw [if_neg c3] at H;have a9:decide (a0 < (a3.length:Int))=false:=decide_eq_false c3;clear c3;simp only [Option.some.injEq,Prod.mk.injEq] at H;obtain ⟨rfl,rfl⟩:=H;obtain ⟨b6,b7,eo9⟩:=Kd.R_slice a2.out;subst eo9;go_wp2;go_ret;exact ⟨zzR,by (with_reducible repeat (first|apply Kd.R_alloc|apply Kd.R_drewN|apply Kd.R_drew));exact a2.out,zzh1,by repeat (first|(with_reducible first|exact HK.out|apply Kept.alloc|apply Kept.drewN|apply Kept.drew)|exact HK.out)⟩

set_option linter.unusedVariables false
set_option linter.unusedSimpArgs false
section
inductive Sim:Value→Value→Prop
 | refl (u:Value):Sim u u
 | int (k:IntKind) (x y:Int):Sim (.int k x) (.int k y)
 | bool (x y:Bool):Sim (.bool x) (.bool y)
theorem Sim.trans {a b c:Value} (h:Sim a b) (k:Sim b c):Sim a c:=by
 cases h with
 | refl=>exact k
 | int kk x y=>
  cases k with
  | refl=>exact .int _ _ _
  | int _ _ z=>exact .int _ _ _
 | bool x y=>
  cases k with
  | refl=>exact .bool _ _
  | bool _ z=>exact .bool _ _
theorem Sim.of_int {k:IntKind} {x:Int} {u:Value} (h:Sim (.int k x) u):∃ y,u = .int k y:=by
 cases h with
 | refl=>exact ⟨x,rfl⟩
 | int _ _ y=>exact ⟨y,rfl⟩
theorem Sim.of_bool {x:Bool} {u:Value} (h:Sim (.bool x) u):∃ y,u = .bool y:=by
 cases h with
 | refl=>exact ⟨x,rfl⟩
 | bool _ y=>exact ⟨y,rfl⟩
theorem Sim.of_slice {A:Option Addr} {n c:Nat} {u:Value} (h:Sim (.slice A n c) u):u = .slice A n c:=by
 cases h with
 | refl=>rfl
structure Lk (P:Nat→Prop) (w w' : World):Prop where
 kept:Kept w w' P
 low:∀ B,(∀ k,P k→B≤k)→Below B w w'
 cell:∀ (g:Nat) (cs:Array Value) (t:Nat),w.heap[g]? = some (.cells cs t (0,0))→∃ cs' : Array Value,w'.heap[g]? = some (.cells cs' t (0,0))∧∀ (i:Nat) (u:Value),cs[i]? = some u→∃ u',cs'[i]? = some u'∧Sim u u'
theorem Lk.refl (P:Nat→Prop) (w:World):Lk P w w:=⟨Kept.refl _ _,fun _ _=>Below.refl _ _,fun g cs t h=>⟨cs,h,fun i u hu=>⟨u,hu,.refl u⟩⟩⟩
theorem Lk.trans {P:Nat→Prop} {x y z:World} (h:Lk P x y) (k:Lk P y z):Lk P x z:=by
 refine ⟨h.kept.then_ k.kept (fun _ h2=>.inl h2),fun B hB=>(h.low B hB).trans (k.low B hB),fun g cs t h0=>?_⟩;obtain ⟨c1,h1,q1⟩:=h.cell g cs t h0;obtain ⟨c2,h2,q2⟩:=k.cell g c1 t h1;refine ⟨c2,h2,fun i u hu=>?_⟩;obtain ⟨u1,e1,s1⟩:=q1 i u hu;obtain ⟨u2,e2,s2⟩:=q2 i u1 e1;exact ⟨u2,e2,s1.trans s2⟩
theorem Lk.set {P:Nat→Prop} {w:World} {g t i:Nat} {cs:Array Value} {u v:Value} (h:w.heap[g]? = some (.cells cs t (0,0))) (hu:cs[i]? = some u) (hs:Sim u v) (hp:P g):Lk P w (w.setCell ⟨g,i,none⟩ v):=by
 refine ⟨(Kept.refl w P).setCell (.inl hp) v,fun B hB=>(Below.refl B w).setCell (p:=⟨g,i,none⟩) (hB g hp) v,fun g' cs' t' h'=>?_⟩;by_cases e:g' = g
 ·subst e
  rw [h] at h';cases h';refine ⟨cs.setIfInBounds i v,zzi h i v rfl,fun j u2 hj=>?_⟩;by_cases ej:j=i
  ·subst ej
   rw [hu] at hj;cases hj;exact ⟨v,by rw [Array.getElem?_setIfInBounds_self_of_lt (Array.getElem?_eq_some_iff.1 hu).1],hs⟩
  ·exact ⟨u2,by rw [Array.getElem?_setIfInBounds_ne (Ne.symm ej)];exact hj,.refl _⟩
 ·exact ⟨cs',(Below.heap_setCell w ⟨g,i,none⟩ v g' e).trans h',fun j u2 hj=>⟨u2,hj,.refl _⟩⟩
def IntRow (P:Nat→Prop) (w:World) (A:Option Addr) (n:Nat):Prop:=0 < n→∃ (g:Nat) (cs:Array Value),A=some ⟨g,0,none⟩∧P g∧w.heap[g]? = some (.cells cs 3 (0,0))∧∀ i,i < n→∃ x,cs[i]? = some (.int .i64 x)
def RecRow (P:Nat→Prop) (w:World) (A:Option Addr) (n:Nat) (len:Nat→Nat×Nat):Prop:=0 < n→∃ (g:Nat) (cs:Array Value),A=some ⟨g,0,none⟩∧P g∧w.heap[g]? = some (.cells cs 47 (0,0))∧∀ i,i < n →
 ∃ x0 x1 b2 A3 c3 b4 A5 c5,(cs[i * 6+0]? = some (.int .i64 x0)∧cs[i * 6+1]? = some (.int .i64 x1)∧cs[i * 6+2]? = some (.bool b2)∧cs[i * 6+3]? = some (.slice A3 (len i).1 c3)∧cs[i * 6+4]? = some (.bool b4)∧cs[i * 6+5]? = some (.slice A5 (len i).2 c5))∧IntRow P w A3 (len i).1∧IntRow P w A5 (len i).2
def BatRow (P:Nat→Prop) (w:World) (A:Option Addr) (n:Nat) (num:Nat→Nat) (len:Nat→Nat→Nat×Nat):Prop:=0 < n→∃ (g:Nat) (cs:Array Value),A=some ⟨g,0,none⟩∧P g∧w.heap[g]? = some (.cells cs 39 (0,0))∧∀ i,i < n →
 ∃ b0 b1 x2 x3 x4 A5 c5,(cs[i * 6+0]? = some (.bool b0)∧cs[i * 6+1]? = some (.bool b1)∧cs[i * 6+2]? = some (.int .i64 x2)∧cs[i * 6+3]? = some (.int .i64 x3)∧cs[i * 6+4]? = some (.int .i64 x4)∧cs[i * 6+5]? = some (.slice A5 (num i) c5))∧RecRow P w A5 (num i) (len i)
theorem IntRow.lk {P:Nat→Prop} {w w' : World} {A:Option Addr} {n:Nat} (h:IntRow P w A n) (k:Lk P w w'):IntRow P w' A n:=by
 intro hn;obtain ⟨g,cs,rfl,hp,hh,hc⟩:=h hn;obtain ⟨cs',hh',hc'⟩:=k.cell g cs 3 hh;refine ⟨g,cs',rfl,hp,hh',fun i hi=>?_⟩;obtain ⟨x,hx⟩:=hc i hi;obtain ⟨u,hu,hs⟩:=hc' i _ hx;obtain ⟨y,rfl⟩:=hs.of_int;exact ⟨y,hu⟩
theorem RecRow.lk {P:Nat→Prop} {w w' : World} {A:Option Addr} {n:Nat} {len:Nat→Nat×Nat} (h:RecRow P w A n len) (k:Lk P w w'):RecRow P w' A n len:=by
 intro hn;obtain ⟨g,cs,rfl,hp,hh,hc⟩:=h hn;obtain ⟨cs',hh',hc'⟩:=k.cell g cs _ hh;refine ⟨g,cs',rfl,hp,hh',fun i hi=>?_⟩;obtain ⟨x0,x1,b2,A3,c3,b4,A5,c5,⟨h0,h1,h2,h3,h4,h5⟩,r3,r5⟩:=hc i hi;obtain ⟨_,q0,s0⟩:=hc' _ _ h0;obtain ⟨_,q1,s1⟩:=hc' _ _ h1;obtain ⟨_,q2,s2⟩:=hc' _ _ h2;obtain ⟨_,q3,s3⟩:=hc' _ _ h3;obtain ⟨_,q4,s4⟩:=hc' _ _ h4;obtain ⟨_,q5,s5⟩:=hc' _ _ h5;obtain ⟨y0,rfl⟩:=s0.of_int;obtain ⟨y1,rfl⟩:=s1.of_int;obtain ⟨y2,rfl⟩:=s2.of_bool;obtain rfl:=s3.of_slice;obtain ⟨y4,rfl⟩:=s4.of_bool;obtain rfl:=s5.of_slice;exact ⟨y0,y1,y2,A3,c3,y4,A5,c5,⟨q0,q1,q2,q3,q4,q5⟩,r3.lk k,r5.lk k⟩
theorem BatRow.lk {P:Nat→Prop} {w w' : World} {A:Option Addr} {n:Nat} {num:Nat→Nat} {len:Nat→Nat→Nat×Nat} (h:BatRow P w A n num len) (k:Lk P w w'):BatRow P w' A n num len:=by
 intro hn;obtain ⟨g,cs,rfl,hp,hh,hc⟩:=h hn;obtain ⟨cs',hh',hc'⟩:=k.cell g cs _ hh;refine ⟨g,cs',rfl,hp,hh',fun i hi=>?_⟩;obtain ⟨b0,b1,x2,x3,x4,A5,c5,⟨h0,h1,h2,h3,h4,h5⟩,r5⟩:=hc i hi;obtain ⟨_,q0,s0⟩:=hc' _ _ h0;obtain ⟨_,q1,s1⟩:=hc' _ _ h1;obtain ⟨_,q2,s2⟩:=hc' _ _ h2;obtain ⟨_,q3,s3⟩:=hc' _ _ h3;obtain ⟨_,q4,s4⟩:=hc' _ _ h4;obtain ⟨_,q5,s5⟩:=hc' _ _ h5;obtain ⟨y0,rfl⟩:=s0.of_bool;obtain ⟨y1,rfl⟩:=s1.of_bool;obtain ⟨y2,rfl⟩:=s2.of_int;obtain ⟨y3,rfl⟩:=s3.of_int;obtain ⟨y4,rfl⟩:=s4.of_int;obtain rfl:=s5.of_slice;exact ⟨y0,y1,y2,y3,y4,A5,c5,⟨q0,q1,q2,q3,q4,q5⟩,r5.lk k⟩
theorem IntRow.mono {P Q:Nat→Prop} {w:World} {A:Option Addr} {n:Nat} (h:IntRow P w A n) (hq:∀ k,P k→Q k):IntRow Q w A n:=fun hn=>by
 obtain ⟨g,cs,e,hp,r⟩:=h hn
 exact ⟨g,cs,e,hq g hp,r⟩
theorem RecRow.mono {P Q:Nat→Prop} {w:World} {A:Option Addr} {n:Nat} {len:Nat→Nat×Nat} (h:RecRow P w A n len) (hq:∀ k,P k→Q k):RecRow Q w A n len:=fun hn=>by
 obtain ⟨g,cs,e,hp,hh,r⟩:=h hn
 refine ⟨g,cs,e,hq g hp,hh,fun i hi=>?_⟩
 obtain ⟨x0,x1,b2,A3,c3,b4,A5,c5,hc,r3,r5⟩:=r i hi
 exact ⟨x0,x1,b2,A3,c3,b4,A5,c5,hc,r3.mono hq,r5.mono hq⟩
theorem mk_cell {cur:Array Value} {n sz:Nat} {inner c:List Value} (h4:List.take (n * sz) cur.toList=inner) {i j:Nat} (hi:i < n) (hc:(inner.drop (i * sz)).take sz=c) (hl:c.length=sz) {u:Value} (hu:c[j]? = some u):cur[i * sz+j]? = some u:=by
 have hj:j < sz:=by rw [← hl];exact (List.getElem?_eq_some_iff.1 hu).1
 have hb:i * sz+j < n * sz:=by
  have:(i+1) * sz≤n * sz:=Nat.mul_le_mul_right _ hi;rw [Nat.add_mul] at this;omega
 rw [← hc,List.getElem?_take_of_lt hj,List.getElem?_drop,← h4,List.getElem?_take_of_lt hb,Array.getElem?_toList] at hu;exact hu
theorem intRow_of {w:World} {base:Nat} {ok:Nat→Prop} {v:Value} {xs:List Int} (h:Kd.R (Kd.int .i64) 3 w base ok v xs):∃ A c,v = .slice A xs.length c∧IntRow ok w A xs.length:=by
 obtain ⟨h0,inner,⟨_,ho⟩,hr⟩:=h;rcases ho with ⟨rfl,hn⟩|⟨g,cap,cur,rfl,_,hh,_,_,_,h4⟩
 ·exact ⟨none,0,by rw [hn],fun hp=>by omega⟩
 ·refine ⟨_,cap,rfl,fun _=>⟨g,cur,rfl,h0 g rfl,hh,fun i hi=>?_⟩⟩
  have hM:(inner.drop (i * 1)).take 1 = [.int .i64 xs[i]]:=hr.2 i xs[i] (List.getElem?_eq_getElem hi);have hc:cur[i * 1+0]? = some (.int .i64 xs[i]):=mk_cell (j:=0) h4 hi hM rfl rfl;rw [Nat.mul_one,Nat.add_zero] at hc;exact ⟨xs[i],hc⟩
theorem recRow_of {w:World} {base:Nat} {ok:Nat→Prop} {v:Value} {xs:List S47} (h:Kd.R k47 47 w base ok v xs):∃ A c,v = .slice A xs.length c∧RecRow ok w A xs.length (fun i=>((Qb xs (i:Int)).f3.length,(Qb xs (i:Int)).f5.length)):=by
 obtain ⟨h0,inner,⟨_,ho⟩,hr⟩:=h;rcases ho with ⟨rfl,hn⟩|⟨g,cap,cur,rfl,_,hh,_,_,_,h4⟩
 ·exact ⟨none,0,by rw [hn],fun hp=>by omega⟩
 ·refine ⟨_,cap,rfl,fun _=>⟨g,cur,rfl,h0 g rfl,hh,fun i hi=>?_⟩⟩
  have hrd:Qb xs (i:Int)=xs[i]:=by unfold Qb;rw [Int.toNat_natCast,List.getD_eq_getElem?_getD,List.getElem?_eq_getElem hi];rfl
  obtain ⟨c0,d0,e0,f0,c1,d1,e1,f1,c2,d2,e2,f2,c3,d3,e3,⟨v3,f3,h3⟩,c4,d4,e4,f4,v5,f5,h5⟩:=hr.2 i xs[i] (List.getElem?_eq_getElem hi);subst f0 e1 f1 e2 f2 e3 f3 e4 f4 f5;obtain ⟨A3,k3,e3,r3⟩:=intRow_of h3;obtain ⟨A5,k5,e5,r5⟩:=intRow_of h5;subst e3 e5;dsimp only;rw [hrd];exact ⟨_,_,_,A3,k3,_,A5,k5,⟨mk_cell (j:=0) h4 hi e0 rfl rfl,mk_cell (j:=1) h4 hi e0 rfl rfl,mk_cell (j:=2) h4 hi e0 rfl rfl,mk_cell (j:=3) h4 hi e0 rfl rfl,mk_cell (j:=4) h4 hi e0 rfl rfl,mk_cell (j:=5) h4 hi e0 rfl rfl⟩,r3.mono (fun _ hk=>hk.1),r5.mono (fun _ hk=>hk.1)⟩
theorem batRow_of {w:World} {base:Nat} {ok:Nat→Prop} {v:Value} {xs:List S39} (h:Kd.R k39 39 w base ok v xs):∃ A c,v = .slice A xs.length c∧BatRow ok w A xs.length (fun i=>(Qa xs (i:Int)).f5.length) (fun i j=>((Qb (Qa xs (i:Int)).f5 (j:Int)).f3.length,(Qb (Qa xs (i:Int)).f5 (j:Int)).f5.length)):=by
 obtain ⟨h0,inner,⟨_,ho⟩,hr⟩:=h;rcases ho with ⟨rfl,hn⟩|⟨g,cap,cur,rfl,_,hh,_,_,_,h4⟩
 ·exact ⟨none,0,by rw [hn],fun hp=>by omega⟩
 ·refine ⟨_,cap,rfl,fun _=>⟨g,cur,rfl,h0 g rfl,hh,fun i hi=>?_⟩⟩
  have hrd:Qa xs (i:Int)=xs[i]:=by unfold Qa;rw [Int.toNat_natCast,List.getD_eq_getElem?_getD,List.getElem?_eq_getElem hi];rfl
  obtain ⟨c0,d0,e0,f0,c1,d1,e1,f1,c2,d2,e2,f2,c3,d3,e3,f3,c4,d4,e4,f4,v5,f5,h5⟩:=hr.2 i xs[i] (List.getElem?_eq_getElem hi);subst f0 e1 f1 e2 f2 e3 f3 e4 f4 f5;obtain ⟨A5,k5,e5,r5⟩:=recRow_of h5;subst e5;dsimp only;rw [hrd];exact ⟨_,_,_,_,_,A5,k5,⟨mk_cell (j:=0) h4 hi e0 rfl rfl,mk_cell (j:=1) h4 hi e0 rfl rfl,mk_cell (j:=2) h4 hi e0 rfl rfl,mk_cell (j:=3) h4 hi e0 rfl rfl,mk_cell (j:=4) h4 hi e0 rfl rfl,mk_cell (j:=5) h4 hi e0 rfl rfl⟩,r5.mono (fun _ hk=>hk.1)⟩
set_option maxHeartbeats 4000000 in
theorem markInt_lk (P:Nat→Prop) (A:Option Addr) (n c:Nat) (a1:Int) (w:World) (h:IntRow P w A n) (h0 : 0≤a1) (h1:a1+n≤9000000000000000000) :
  Calls Try.prog 41 #[.slice A n c,.int .i64 a1] w fun e w'=>e = .returned (.int .i64 (a1+n))∧Lk P w w':=by
 have HR:=zzm h;have H0:=zzm h0;have H1:=zzm h1;clear h h0 h1;go_enter Try.func41,Try.ntmps41;go_wp2;go_loopw [1,5] (fun v1 v5 W=>∃ m:Nat,m≤n∧v1 = .int .i64 (a1+m)∧v5 = .int .i64 m∧Lk P w W) (fun _ v5 _=>n - (intOf v5).toNat)
 case atStart=>exact ⟨0,Nat.zero_le _,by simp,by go_num,Lk.refl _ _⟩
 case round=>
  obtain ⟨m,hm,rfl,rfl,hL⟩:=hrel;have HL:=zzm hL;clear hL;have h0:=H0.out;have h1:=H1.out;by_cases hlt:m < n
  ·obtain ⟨g,cs,rfl,hP,hh,hc⟩:=HR.out.lk HL.out (by omega)
   obtain ⟨y,hy⟩:=hc m hlt;have HP:=zzm hP;have HH:=zzm hh;have HY:=zzm hy;have q:=(zzk hh m).trans hy;have f:=zzl hh m;have e1:wrap64 (a1+(m:Int)+1)=a1+((m+1:Nat):Int):=by unfold wrap64;omega
   have e2:wrap64 ((m:Int)+1)=((m+1:Nat):Int):=by unfold wrap64;omega
   have hmi:((m:Nat):Int) < ((n:Nat):Int):=by omega
   clear hP hh hc hy;go_wp2;go_roundw
   case rel=>exact ⟨m+1,by omega,congrArg (Value.int .i64) (by omega),congrArg (Value.int .i64) (by omega),HL.out.trans (Lk.set HH.out HY.out (.int _ _ _) HP.out)⟩
   case measure=>simp [intOf] <;> omega
  ·obtain rfl:m=n:=by omega
   have hmi:¬ ((m:Nat):Int) < ((m:Nat):Int):=by omega
   go_wp2;go_ret;exact ⟨rfl,HL.out⟩
theorem Lk.at_ {P:Nat→Prop} {W W' : World} {g t i:Nat} {cs:Array Value} {u:Value} (h:Lk P W W') (hh:W.heap[g]? = some (.cells cs t (0,0))) (hu:cs[i]? = some u):∃ cs' u',W'.heap[g]? = some (.cells cs' t (0,0))∧cs'[i]? = some u'∧Sim u u'∧W'.cell? ⟨g,i,none⟩=some u'∧W'.frozen? ⟨g,i,none⟩=false:=by
 obtain ⟨cs',hh',hc⟩:=h.cell g cs t hh;obtain ⟨u',hu',hs⟩:=hc i u hu;exact ⟨cs',u',hh',hu',hs,(zzk hh' i).trans hu',zzl hh' i⟩
theorem meas_lt {n m:Nat} {v:Value} (hv:v = .int .i64 ((m+1:Nat):Int)) (h:m < n):n - (intOf v).toNat < n - (intOf (.int .i64 (m:Int))).toNat:=by
 subst hv;simp [intOf];omega
def cntR (len:Nat→Nat×Nat):Nat→Nat
 | 0=>0
 | m+1=>cntR len m+(4+(len m).1+(len m).2)
theorem cntR_le (len:Nat→Nat×Nat):∀ {m n:Nat},m≤n→cntR len m≤cntR len n
 | m,0,h=>by rw [show m=0 by omega];exact Nat.le_refl _
 | m,n+1,h=>by
  by_cases e:m=n+1
  ·rw [e];exact Nat.le_refl _
  ·have h1:=cntR_le len (show m≤n by omega)
   have h2:cntR len (n+1)=cntR len n+(4+(len n).1+(len n).2):=rfl
   omega
theorem le_cntR (len:Nat→Nat×Nat):∀ m,m≤cntR len m
 | 0=>Nat.le_refl _
 | m+1=>by
  have h1:=le_cntR len m
  have h2:cntR len (m+1)=cntR len m+(4+(len m).1+(len m).2):=rfl
  omega
set_option maxHeartbeats 8000000 in
theorem markRec_lk (P:Nat→Prop) (A:Option Addr) (n c:Nat) (len:Nat→Nat×Nat) (a1:Int) (w:World) (h:RecRow P w A n len) (h0 : 0≤a1) (h1:a1+cntR len n≤9000000000000000000) :
    Calls Try.prog 23 #[.slice A n c,.int .i64 a1] w fun e w'=>e = .returned (.int .i64 (a1+cntR len n))∧Lk P w w':=by
  have HR:=zzm h;have H0:=zzm h0;have H1:=zzm h1;clear h h0 h1;have hu:=Try.underlying47;go_enter Try.func23,Try.ntmps23;go_wp2;go_loopw [1,5] (fun v1 v5 W=>∃ m:Nat,m≤n∧v1 = .int .i64 (a1+cntR len m)∧v5 = .int .i64 m∧Lk P w W) (fun _ v5 _=>n - (intOf v5).toNat)
  case atStart=>exact ⟨0,Nat.zero_le _,by simp [cntR],by go_num,Lk.refl _ _⟩
  case round=>
    obtain ⟨m,hm,rfl,rfl,hL⟩:=hrel;have HL:=zzm hL;clear hL;have h0:=H0.out;have h1:=H1.out;by_cases hlt:m < n
    · have hcl:=cntR_le len (show m+1≤n from hlt)
      have hcs:cntR len (m+1)=cntR len m+(4+(len m).1+(len m).2):=rfl;have hmc:=le_cntR len m;have e5:wrap64 ((m:Int)+1)=((m+1:Nat):Int):=by unfold wrap64;omega
      obtain ⟨kk,hkk⟩:∃ kk:Int,kk=a1+(cntR len m:Int):=⟨_,rfl⟩;rw [← hkk];have k0 : 0≤kk:=by omega
      have k1:kk+4+((len m).1:Int)+((len m).2:Int)≤9000000000000000000:=by omega
      have hend:((kk+1+1+1+((len m).1:Int))+1+((len m).2:Int))=a1+(cntR len (m+1):Int):=by omega
      have HE:=zzm hend;have b1 : 0≤kk+1+1+1:=by omega
      have b2:kk+1+1+1+((len m).1:Int)≤9000000000000000000:=by omega
      have b3 : 0≤kk+1+1+1+((len m).1:Int)+1:=by omega
      have b4:kk+1+1+1+((len m).1:Int)+1+((len m).2:Int)≤9000000000000000000:=by omega
      have B1:=zzm b1;have B2:=zzm b2;have B3:=zzm b3;have B4:=zzm b4;have e1:wrap64 (kk+1)=kk+1:=by unfold wrap64;omega
      have e2:wrap64 (kk+1+1)=kk+1+1:=by unfold wrap64;omega
      have e3:wrap64 (kk+1+1+1)=kk+1+1+1:=by unfold wrap64;omega
      have e4:wrap64 (kk+1+1+1+((len m).1:Int)+1)=kk+1+1+1+((len m).1:Int)+1:=by unfold wrap64;omega
      clear hkk hcl hcs h0 h1 hend hmc b1 b2 b3 b4;obtain ⟨g,cs,rfl,hP,hh,hc⟩:=HR.out.lk HL.out (Nat.lt_of_le_of_lt (Nat.zero_le m) hlt);obtain ⟨x0,x1,y2,A3,c3,y4',A5,c5,⟨q0,q1,q2,q3,q4,q5⟩,r3,r5⟩:=hc m hlt;rw [Nat.add_zero] at q0;have HP:=zzm hP;have HH:=zzm hh;have p0:=(zzk hh (m * 6)).trans q0;have z0:=zzl hh (m * 6);have p1:=(zzk hh (m * 6+1)).trans q1;have z1:=zzl hh (m * 6+1);have p2:=(zzk hh (m * 6+2)).trans q2;have z2:=zzl hh (m * 6+2);have p3:=(zzk hh (m * 6+3)).trans q3;have l1:Lk P wr (wr.setCell ⟨g,m * 6,none⟩ (.int .i64 kk)):=Lk.set hh q0 (.int _ _ _) hP;obtain ⟨cs1,u1,hh1,q1',s1,_,_⟩:=l1.at_ hh q1;have l2:=l1.trans (Lk.set hh1 q1' (v:=.int .i64 (kk+1)) (by obtain ⟨y,rfl⟩:=s1.of_int;exact .int _ _ _) hP);obtain ⟨cs2,u2,hh2,q2',s2,_,_⟩:=l2.at_ hh q2;have L3:=zzm (l2.trans (Lk.set hh2 q2' (v:=.bool ((kk+1+1) % 3==0)) (by obtain ⟨y,rfl⟩:=s2.of_bool;exact .bool _ _) hP));have hmi:((m:Nat):Int) < ((n:Nat):Int):=by omega
      have R3:=zzm r3;have R5:=zzm r5;clear hP hh r3 r5 hc l1 l2 hh1 hh2 q1' q2' s1 s2;go_wp2_with (first
        | (go_at_call 41;have hq:=markInt_lk P A3 (len m).1 c3 (kk+1+1+1) _ (R3.out.lk L3.out) B1.out B2.out;with_reducible refine hq.mono ?_;clear hq;rintro e W4 ⟨rfl,hL4⟩
           have l4:=L3.out.trans hL4;obtain ⟨cs4,v4,hh4,q4',s4,p4,z4⟩:=l4.at_ HH.out q4;obtain ⟨y4,rfl⟩:=s4.of_bool;obtain ⟨cs5,v5',hh5,q5',s5,p5,z5⟩:=l4.at_ HH.out q5;obtain rfl:=s5.of_slice;have L5:=zzm (l4.trans (Lk.set hh4 q4' (v:=.bool ((kk+1+1+1+((len m).1:Int)) % 3==0)) (.bool _ _) HP.out));clear hL4 l4 hh4 q4' s4 hh5 q5' s5)
        | (go_at_call 41;have hq:=markInt_lk P A5 (len m).2 c5 (kk+1+1+1+((len m).1:Int)+1) _ (R5.out.lk L5.out) B3.out B4.out;with_reducible refine hq.mono ?_;clear hq;rintro e W6 ⟨rfl,hL6⟩
           have L6:=zzm (L5.out.trans hL6);clear hL6))
      go_roundw
      case rel=>exact ⟨m+1,hlt,congrArg (Value.int .i64) HE.out,by first|exact congrArg (Value.int .i64) e5|exact congrArg (Value.int .i64) (by omega),HL.out.trans L6.out⟩
      case measure=>exact meas_lt (by first|exact congrArg (Value.int .i64) e5|rfl) hlt
    · obtain rfl:m=n:=by omega
      have hmi:¬ ((m:Nat):Int) < ((m:Nat):Int):=by omega
      go_wp2;go_ret;exact ⟨rfl,HL.out⟩
end
section
theorem six_of {l:List Value} {b n:Nat} {u0 u1 u2 u3 u4 u5:Value} (hb:b+6≤n) (q0:l[b]? = some u0) (q1:l[b+1]? = some u1) (q2:l[b+2]? = some u2) (q3:l[b+3]? = some u3) (q4:l[b+4]? = some u4) (q5:l[b+5]? = some u5) :
  ((l.take n).drop b).take 6 = [u0,u1,u2,u3,u4,u5]:=by
 apply List.ext_getElem?;intro i;by_cases hi:i < 6
 ·rw [List.getElem?_take_of_lt hi,List.getElem?_drop,List.getElem?_take_of_lt (by omega)]
  match i,hi with
  | 0,_=>exact q0
  | 1,_=>exact q1
  | 2,_=>exact q2
  | 3,_=>exact q3
  | 4,_=>exact q4
  | 5,_=>exact q5
 ·rw [List.getElem?_eq_none (by simp;omega),List.getElem?_eq_none (by simp;omega)]
theorem part_eq {l l' : List Value} {b n:Nat} (hb:b+6≤n) (h:∀ i,i < 6→l'[b+i]? = l[b+i]?):((l'.take n).drop b).take 6=((l.take n).drop b).take 6:=by
 apply List.ext_getElem?;intro i;by_cases hi:i < 6
 ·rw [List.getElem?_take_of_lt hi,List.getElem?_drop,List.getElem?_take_of_lt (by omega),List.getElem?_take_of_lt hi,List.getElem?_drop,List.getElem?_take_of_lt (by omega)]
  exact h i hi
 ·rw [List.getElem?_eq_none (by simp;omega),List.getElem?_eq_none (by simp;omega)]
theorem putA {w:World} {base:Nat} {P:Nat→Prop} {g n c:Nat} {xs:List S47} (h:Kd.S kA 47 w base P (.slice (some ⟨g,0,none⟩) n c) xs) {m:Nat} {x:S47} (hx:xs[m]? = some x) :
  ∃ (cs:Array Value) (v3 v5:Value),w.heap[g]? = some (.cells cs 47 (0,0))∧base≤g∧P g∧(cs[m * 6]? = some (.int .i64 x.f0)∧cs[m * 6+1]? = some (.int .i64 x.f1)∧cs[m * 6+2]? = some (.bool x.f2)∧cs[m * 6+3]? = some v3∧cs[m * 6+4]? = some (.bool x.f4)∧cs[m * 6+5]? = some v5) ∧
   Kd.R (Kd.int .i64) 3 w base (fun k=>some k=v3.ownBlock) v3 x.f3∧Kd.R (Kd.int .i64) 3 w base (fun k=>some k=v5.ownBlock) v5 x.f5∧(∀ k,some k=v3.ownBlock→P k∧k≠g∧some k≠v5.ownBlock)∧(∀ k,some k=v5.ownBlock→P k∧k≠g) ∧
   ∀ (w' : World) (cs' : Array Value) (z:S47),w'.heap[g]? = some (.cells cs' 47 (0,0))→cs'.size=cs.size→(∀ i,i≠m * 6→i≠m * 6+1→i≠m * 6+2→i≠m * 6+4→cs'[i]? = cs[i]?) →
    cs'[m * 6]? = some (.int .i64 z.f0)→cs'[m * 6+1]? = some (.int .i64 z.f1)→cs'[m * 6+2]? = some (.bool z.f2)→cs'[m * 6+4]? = some (.bool z.f4) →
    Kd.R (Kd.int .i64) 3 w' base (fun k=>some k=v3.ownBlock) v3 z.f3→Kd.R (Kd.int .i64) 3 w' base (fun k=>some k=v5.ownBlock) v5 z.f5→(∀ k,k < w.heap.size→k≠g→some k≠v3.ownBlock→some k≠v5.ownBlock→w'.heap[k]? = w.heap[k]?) →
    Kd.S kA 47 w' base P (.slice (some ⟨g,0,none⟩) n c) (xs.set m z):=by
 obtain ⟨f,h0,inner,⟨hlen,hrows⟩,hrep⟩:=h;rcases hrows with ⟨e,_⟩|⟨g',cap,cur,e,hbg,hh,hnc,hcm,hcs,ht⟩
 ·cases e
 injection e with ea en ec;injection ea with ea;injection ea with ea;subst ea;subst ec;have hmx:m < xs.length:=(List.getElem?_eq_some_iff.1 hx).1;have hlz:xs.zipIdx.length=xs.length:=List.length_zipIdx;have hM:=hrep.2 m (x,m) (Kd.zip_at hx);obtain ⟨v3,v5,hc,r3,r5⟩:=hM;have hsz:(Kd.tag f kA).sz=6:=rfl;rw [hsz] at hc ht hcs;have hcell:∀ j u,[Value.int .i64 x.f0,.int .i64 x.f1,.bool x.f2,v3,.bool x.f4,v5][j]? = some u→cur[m * 6+j]? = some u:=fun j u hu=>mk_cell ht (by omega) hc rfl hu;refine ⟨cur,v3,v5,hh,hbg,h0 g rfl,⟨hcell 0 _ rfl,hcell 1 _ rfl,hcell 2 _ rfl,hcell 3 _ rfl,hcell 4 _ rfl,hcell 5 _ rfl⟩,Kd.R_tight rfl r3,Kd.R_tight rfl r5,fun k hk=>?_,fun k hk=>?_,?_⟩
 ·obtain ⟨⟨⟨h1,h2⟩,_⟩,h3⟩:=r3.1 k hk.symm
  exact ⟨h1,fun e=>h2 (by rw [e];rfl),h3⟩
 ·obtain ⟨⟨⟨h1,h2⟩,_⟩,h3⟩:=r5.1 k hk.symm
  exact ⟨h1,fun e=>h2 (by rw [e];rfl)⟩
 intro w' cs' z hh' hcs' hsame z0 z1 z2 z4 s3 s5 hkeep;have hlset:(xs.set m z).zipIdx.length=xs.zipIdx.length:=by rw [List.length_zipIdx,List.length_set,hlz]
 have hcap:xs.length * 6≤cs'.size:=by rw [hcs',hcs,← hlz];exact Nat.mul_le_mul_right _ hnc
 have htl:(cs'.toList.take (xs.length * 6)).length=xs.length * 6:=by
  have e:cs'.toList.length=cs'.size:=Array.length_toList;rw [length_take,e,Nat.min_eq_left hcap]
 have hb6:∀ j,j < xs.length→j * 6+6≤xs.length * 6:=fun j hj=>by omega
 refine ⟨f,h0,cs'.toList.take (xs.length * 6),⟨?_,.inr ⟨g,c,cs',?_,hbg,hh',by rw [hlset];exact hnc,hcm,by rw [hcs',hcs];rfl,?_⟩⟩,?_,fun j p hj=>?_⟩
 ·rw [hlset,hlz];exact htl
 ·rw [hlset,← en]
 ·rw [hlset,hlz];rfl
 ·rw [hlset,hlz];exact htl
 ·rw [List.getElem?_zipIdx,Nat.zero_add] at hj
  obtain ⟨y,hy,rfl⟩:=Option.map_eq_some_iff.1 hj;rw [hsz];by_cases hjm:j=m
  ·subst hjm
   rw [List.getElem?_set_self hmx] at hy;obtain rfl:=Option.some.inj hy;refine ⟨v3,v5,?_,Kd.R_mono s3 fun k hk=>r3.1 k hk.symm,Kd.R_mono s5 fun k hk=>r5.1 k hk.symm⟩;have hn3:cs'[j * 6+3]? = some v3:=(hsame _ (by omega) (by omega) (by omega) (by omega)).trans (hcell 3 _ rfl);have hn5:cs'[j * 6+5]? = some v5:=(hsame _ (by omega) (by omega) (by omega) (by omega)).trans (hcell 5 _ rfl);rw [← Array.getElem?_toList] at z0 z1 z2 z4 hn3 hn5;exact six_of (hb6 j hmx) z0 z1 z2 hn3 z4 hn5
  ·rw [List.getElem?_set_ne (Ne.symm hjm)] at hy
   have hjl:j < xs.length:=(List.getElem?_eq_some_iff.1 hy).1;have hM:=hrep.2 j (y,j) (Kd.zip_at hy);rw [hsz,← ht,hlz] at hM;have he:((cs'.toList.take (xs.length * 6)).drop (j * 6)).take 6=((cur.toList.take (xs.length * 6)).drop (j * 6)).take 6:=part_eq (hb6 j hjl) (fun i hi=>by
    rw [Array.getElem?_toList,Array.getElem?_toList];exact hsame _ (by omega) (by omega) (by omega) (by omega))
   rw [he];refine Kd.M_step (d:=kA) hM (fun k hk hlt=>hkeep k hlt (fun e=>hk.1.2 (by rw [e];rfl)) (fun e=>?_) (fun e=>?_))
   ·exact hjm (hk.2.symm.trans (r3.1 k e.symm).1.2)
   ·exact hjm (hk.2.symm.trans (r5.1 k e.symm).1.2)
theorem four_set (cs:Array Value) (b:Nat) {u0 u1 u2 u4:Value} (z0 z1 z2 z4:Value) (q0:cs[b]? = some u0) (q1:cs[b+1]? = some u1) (q2:cs[b+2]? = some u2) (q4:cs[b+4]? = some u4) :
  ∀ cs',cs' = (((cs.setIfInBounds b z0).setIfInBounds (b+1) z1).setIfInBounds (b+2) z2).setIfInBounds (b+4) z4→cs'.size=cs.size∧(∀ i,i≠b→i≠b+1→i≠b+2→i≠b+4→cs'[i]? = cs[i]?)∧cs'[b]? = some z0∧cs'[b+1]? = some z1∧cs'[b+2]? = some z2∧cs'[b+4]? = some z4:=by
 rintro cs' rfl;have l0:=(Array.getElem?_eq_some_iff.1 q0).1;have l1:=(Array.getElem?_eq_some_iff.1 q1).1;have l2:=(Array.getElem?_eq_some_iff.1 q2).1;have l4:=(Array.getElem?_eq_some_iff.1 q4).1;refine ⟨by simp,fun i h0 h1 h2 h4=>?_,?_,?_,?_,?_⟩
 ·rw [Array.getElem?_setIfInBounds_ne (Ne.symm h4),Array.getElem?_setIfInBounds_ne (Ne.symm h2),Array.getElem?_setIfInBounds_ne (Ne.symm h1),Array.getElem?_setIfInBounds_ne (Ne.symm h0)]
 ·rw [Array.getElem?_setIfInBounds_ne (by omega),Array.getElem?_setIfInBounds_ne (by omega),Array.getElem?_setIfInBounds_ne (by omega),Array.getElem?_setIfInBounds_self_of_lt l0]
 ·rw [Array.getElem?_setIfInBounds_ne (by omega),Array.getElem?_setIfInBounds_ne (by omega),Array.getElem?_setIfInBounds_self_of_lt (by simpa using l1)]
 ·rw [Array.getElem?_setIfInBounds_ne (by omega),Array.getElem?_setIfInBounds_self_of_lt (by simpa using l2)]
 ·rw [Array.getElem?_setIfInBounds_self_of_lt (by simpa using l4)]
def uptoI (a:Int):Nat→List Int
 | 0=>[]
 | n+1=>a::uptoI (a+1) n
theorem uptoI_len (a:Int) (n:Nat):(uptoI a n).length=n:=by
 induction n generalizing a with
 | zero=>rfl
 | succ n ih=>rw [uptoI,List.length_cons,ih]
theorem markInt_l0:∀ (d:Nat) (xs:List Int) (i:Nat) (a:Int),xs.length - i=d→i≤xs.length→(xs.length:Int)≤9000000000000000000→0≤a→a+(d:Int)≤9000000000000000000→Q6.l0 (d+1) xs a (i:Int)=some (a+(d:Int),xs.take i++uptoI a d)
 | 0,xs,i,a,hd,hi,_,h0,h1=>by
  obtain rfl:i=xs.length:=by omega
  unfold Q6.l0
  rw [if_neg (by omega),List.take_length]
  simp [uptoI]
 | d+1,xs,i,a,hd,hi,hb,h0,h1=>by
  have hlt:i < xs.length:=by omega
  have e1:wrap64 (a+1)=a+1:=by unfold wrap64;omega
  have e2:wrap64 ((i:Int)+1)=((i+1:Nat):Int):=by unfold wrap64;omega
  have ih:=markInt_l0 d (xs.set i a) (i+1) (a+1) (by rw [List.length_set];omega) (by rw [List.length_set];omega) (by rw [List.length_set];exact hb) (by omega) (by omega)
  have e3:(xs.set i a).take (i+1)=xs.take i ++ [a]:=by
   rw [List.take_succ_eq_append_getElem (by rw [List.length_set];exact hlt),List.take_set_of_le (Nat.le_refl _),List.getElem_set_self]
  unfold Q6.l0;rw [if_pos (by omega),if_pos (by omega),e1,e2,Int.toNat_natCast,ih,e3,List.append_assoc];rw [show a+1+(d:Int)=a+((d+1:Nat):Int) by omega];rfl
theorem markInt_f (xs:List Int) (a:Int) (h0 : 0≤a) (h1:a+(xs.length:Int)≤9000000000000000000):Q6.f (xs.length+1) xs a=some (a+(xs.length:Int),uptoI a xs.length):=
 markInt_l0 xs.length xs 0 a rfl (Nat.zero_le _) (by omega) h0 h1
def cntX (x:S47):Nat:=4+x.f3.length+x.f5.length
def cntL:List S47→Nat
 | []=>0
 | x::t=>cntX x+cntL t
def mkRX (x:S47) (a:Int):S47:=⟨a,a+1,Int.tmod (a+1+1) 3==0,uptoI (a+1+1+1) x.f3.length,Int.tmod (a+1+1+1+(x.f3.length:Int)) 3==0,uptoI (a+1+1+1+(x.f3.length:Int)+1) x.f5.length⟩
def markL:List S47→Int→List S47
 | [],_=>[]
 | x::t,a=>mkRX x a::markL t (a+(cntX x:Int))
theorem cntL_snoc (l:List S47) (x:S47):cntL (l ++ [x])=cntL l+cntX x:=by
 induction l with
 | nil=>simp [cntL]
 | cons y t ih=>simp only [List.cons_append,cntL,ih];omega
theorem markL_snoc (l:List S47) (x:S47) (a:Int):markL (l ++ [x]) a=markL l a ++ [mkRX x (a+(cntL l:Int))]:=by
 induction l generalizing a with
 | nil=>simp [markL,cntL]
 | cons y t ih=>simp only [List.cons_append,markL,ih,cntL];rw [show a+(cntX y:Int)+(cntL t:Int)=a+((cntX y+cntL t:Nat):Int) by omega]
theorem markL_len (l:List S47) (a:Int):(markL l a).length=l.length:=by
 induction l generalizing a with
 | nil=>rfl
 | cons y t ih=>rw [markL,List.length_cons,List.length_cons,ih]
theorem cntL_take (l:List S47):∀ m,cntL (l.take m)≤cntL l:=by
 induction l with
 | nil=>intro m;simp [cntL]
 | cons y t ih=>
  intro m;cases m with
  | zero=>simp [cntL]
  | succ m=>simp only [List.take_succ_cons,cntL];have:=ih m;omega
theorem le_cntL (l:List S47):l.length≤cntL l:=by
 induction l with
 | nil=>simp
 | cons y t ih=>simp only [List.length_cons,cntL,cntX];omega
theorem mark_at (l:List S47) (a:Int) {m:Nat} {x:S47} (hx:l[m]? = some x):(markL (l.take m) a++l.drop m)[m]? = some x∧(markL (l.take m) a++l.drop m).set m (mkRX x (a+(cntL (l.take m):Int)))=markL (l.take (m+1)) a++l.drop (m+1):=by
 have hm:m < l.length:=(List.getElem?_eq_some_iff.1 hx).1;have hl:(markL (l.take m) a).length=m:=by rw [markL_len,length_take];omega
 have hd:l.drop m=x::l.drop (m+1):=by rw [List.drop_eq_getElem_cons hm,(List.getElem?_eq_some_iff.1 hx).2]
 have ht:l.take (m+1)=l.take m ++ [x]:=by rw [List.take_succ_eq_append_getElem hm,(List.getElem?_eq_some_iff.1 hx).2]
 constructor
 ·rw [List.getElem?_append_right (by omega),hl,Nat.sub_self,hd];rfl
 ·rw [List.set_append_right _ _ (by omega),hl,Nat.sub_self,hd,zzr,ht,markL_snoc,List.append_assoc];rfl
theorem cnt_at (l:List S47) {m:Nat} {x:S47} (hx:l[m]? = some x):cntL (l.take (m+1))=cntL (l.take m)+cntX x:=by
 have hm:m < l.length:=(List.getElem?_eq_some_iff.1 hx).1;rw [List.take_succ_eq_append_getElem hm,(List.getElem?_eq_some_iff.1 hx).2,cntL_snoc]
def Rm.f (l0:List S47) (a1:Int):Option (Int×List S47):=if 0≤a1∧a1+(cntL l0:Int)≤9000000000000000000 then some (a1+(cntL l0:Int),markL l0 a1) else none
set_option maxHeartbeats 8000000 in
theorem Rm.calls (P0_:Nat→Prop) (u:Value) (l0:List S47) (a1 r1:Int) (r2:List S47) (w0 w:World) (hB:Below w0.heap.size w0 w) (ho:Kd.S kA 47 w w0.heap.size P0_ u l0) (h:Rm.f l0 a1=some (r1,r2)) :
    Calls Try.prog 23 #[u,.int .i64 a1] w fun e w'=>e = .returned (.int .i64 r1)∧Kd.S kA 47 w' w0.heap.size (fun k_=>P0_ k_) u r2∧Below w0.heap.size w0 w'∧Kept w w' (fun k_=>P0_ k_):=by
  have hk:(0≤a1∧a1+(cntL l0:Int)≤9000000000000000000)∧r1=a1+(cntL l0:Int)∧r2=markL l0 a1:=by
    unfold Rm.f at h;by_cases h5 : 0≤a1∧a1+(cntL l0:Int)≤9000000000000000000
    · rw [if_pos h5] at h
      injection h with h;exact ⟨h5,(congrArg Prod.fst h).symm,(congrArg Prod.snd h).symm⟩
    · rw [if_neg h5] at h;cases h
  obtain ⟨⟨h0,h1⟩,rfl,rfl⟩:=hk;obtain ⟨A,c,rfl⟩:=Kd.S_slice ho;have HB:=zzm hB;have HO:=zzm ho;have H0:=zzm h0;have H1:=zzm h1;obtain ⟨n,hn⟩:∃ n,n=l0.length:=⟨_,rfl⟩;rw [← hn];have HN:=zzm hn;clear hB ho h0 h1 h hn;have hu:=Try.underlying47;go_enter Try.func23,Try.ntmps23;go_wp2;go_loopw [1,5] (fun v1 v5 W=>∃ m:Nat,m≤n∧v1 = .int .i64 (a1+(cntL (l0.take m):Int))∧v5 = .int .i64 m∧Kd.S kA 47 W w0.heap.size P0_ (.slice A n c) (markL (l0.take m) a1++l0.drop m)∧Below w0.heap.size w0 W∧Kept w W (fun k_=>P0_ k_)) (fun _ v5 _=>n - (intOf v5).toNat)
  case atStart=>exact ⟨0,Nat.zero_le _,by simp [cntL],by go_num,by rw [HN.out];simpa [markL] using HO.out,HB.out,Kept.refl _ _⟩
  case round=>
    obtain ⟨m,hm,rfl,rfl,hS,hB,hK⟩:=hrel;have HS:=zzm hS;have HB1:=zzm hB;have HK1:=zzm hK;clear hS hB hK HB HO;have h0:=H0.out;have h1:=H1.out;have hn:=HN.out;by_cases hlt:m < n
    · obtain ⟨x,hx⟩:∃ x,l0[m]? = some x:=⟨_,List.getElem?_eq_getElem (by omega)⟩
      obtain ⟨a2,hset⟩:=mark_at l0 a1 hx;have hcs:=cnt_at l0 hx;have hcl:=cntL_take l0 (m+1);have hln:(markL (l0.take m) a1++l0.drop m).length=n:=by rw [List.length_append,markL_len,length_take,length_drop];omega
      have hmc:=le_cntL l0;have e5:wrap64 ((m:Int)+1)=((m+1:Nat):Int):=by unfold wrap64;omega
      obtain ⟨kk,hkk⟩:∃ kk:Int,kk=a1+(cntL (l0.take m):Int):=⟨_,rfl⟩;rw [← hkk] at hset;rw [← hkk];have hcx:cntX x=4+x.f3.length+x.f5.length:=rfl;have hend:kk+1+1+1+(x.f3.length:Int)+1+(x.f5.length:Int)=a1+(cntL (l0.take (m+1)):Int):=by omega
      have b1 : 0≤kk+1+1+1:=by omega
      have b2:kk+1+1+1+(x.f3.length:Int)≤9000000000000000000:=by omega
      have b3 : 0≤kk+1+1+1+(x.f3.length:Int)+1:=by omega
      have b4:kk+1+1+1+(x.f3.length:Int)+1+(x.f5.length:Int)≤9000000000000000000:=by omega
      have HE:=zzm hend;have F3:=zzm (markInt_f x.f3 _ b1 b2);have F5:=zzm (markInt_f x.f5 _ b3 b4);have e1:wrap64 (kk+1)=kk+1:=by unfold wrap64;omega
      have e2:wrap64 (kk+1+1)=kk+1+1:=by unfold wrap64;omega
      have e3:wrap64 (kk+1+1+1)=kk+1+1+1:=by unfold wrap64;omega
      have e4:wrap64 (kk+1+1+1+(x.f3.length:Int)+1)=kk+1+1+1+(x.f3.length:Int)+1:=by unfold wrap64;omega
      have hmi:((m:Nat):Int) < ((n:Nat):Int):=by omega
      obtain ⟨g,cap,he,_⟩:=Kd.S_form HS.out (by rw [hln];omega);injection he with he he2 he3;clear he2 he3;subst he;obtain ⟨cs,v3,v5,hh,hbg,hPg,⟨q0,q1,q2,q3,q4,q5⟩,r3,r5,t3,t5,hback⟩:=putA HS.out a2;rw [show (mkRX x kk)=(⟨kk,kk+1,Int.tmod (kk+1+1) 3==0,uptoI (kk+1+1+1) x.f3.length,Int.tmod (kk+1+1+1+(x.f3.length:Int)) 3==0,uptoI (kk+1+1+1+(x.f3.length:Int)+1) x.f5.length⟩:S47) from rfl] at hset;obtain ⟨A3,c3,rfl⟩:=Kd.R_slice r3;obtain ⟨A5,c5,rfl⟩:=Kd.R_slice r5;have p0:=(zzk hh (m * 6)).trans q0;have z0:=zzl hh (m * 6);have p1:=(zzk hh (m * 6+1)).trans q1;have z1:=zzl hh (m * 6+1);have p2:=(zzk hh (m * 6+2)).trans q2;have z2:=zzl hh (m * 6+2);have p3:=(zzk hh (m * 6+3)).trans q3;have hh3:=zzi (zzi (zzi hh (m * 6) (.int .i64 kk) rfl) (m * 6+1) (.int .i64 (kk+1)) rfl) (m * 6+2) (.bool (Int.tmod (kk+1+1) 3==0)) rfl;have hB3:=zzd (j:=m * 6+2) (v:=.bool (Int.tmod (kk+1+1) 3==0)) (zzd (j:=m * 6+1) (v:=.int .i64 (kk+1)) (zzd (j:=m * 6) (v:=.int .i64 kk) HB1.out hbg) hbg) hbg;have hK3:=Kept.setCell (p:=⟨g,m * 6+2,none⟩) (Kept.setCell (p:=⟨g,m * 6+1,none⟩) (Kept.setCell (p:=⟨g,m * 6,none⟩) (Kept.refl wr (fun k=>k=g∨some k=(Value.slice A3 x.f3.length c3).ownBlock∨some k=(Value.slice A5 x.f5.length c5).ownBlock)) (.inl (.inl rfl)) (.int .i64 kk)) (.inl (.inl rfl)) (.int .i64 (kk+1))) (.inl (.inl rfl)) (.bool (Int.tmod (kk+1+1) 3==0));have h33:=Kd.R_far (p:=⟨g,m * 6+2,none⟩) (Kd.R_far (p:=⟨g,m * 6+1,none⟩) (Kd.R_far (p:=⟨g,m * 6,none⟩) r3 (fun k hk=>(t3 k hk).2.1) (.int .i64 kk)) (fun k hk=>(t3 k hk).2.1) (.int .i64 (kk+1))) (fun k hk=>(t3 k hk).2.1) (.bool (Int.tmod (kk+1+1) 3==0));have h53:=Kd.R_far (p:=⟨g,m * 6+2,none⟩) (Kd.R_far (p:=⟨g,m * 6+1,none⟩) (Kd.R_far (p:=⟨g,m * 6,none⟩) r5 (fun k hk=>(t5 k hk).2) (.int .i64 kk)) (fun k hk=>(t5 k hk).2) (.int .i64 (kk+1))) (fun k hk=>(t5 k hk).2) (.bool (Int.tmod (kk+1+1) 3==0));have HH3:=zzm hh3;have HB3:=zzm hB3;have HK3:=zzm hK3;have H33:=zzm h33;have H53:=zzm h53;have T3:=zzm t3;have T5:=zzm t5;have HBG:=zzm hbg;have HPG:=zzm hPg;have HBK:=zzm hback;have HH:=zzm hh;have HSET:=zzm hset;have FS:=zzm (four_set cs (m * 6) (.int .i64 kk) (.int .i64 (kk+1)) (.bool (Int.tmod (kk+1+1) 3==0)) (.bool (Int.tmod (kk+1+1+1+(x.f3.length:Int)) 3==0)) q0 q1 q2 q4 _ rfl);have Q4:=zzm q4;have Q5:=zzm q5;clear hh hh3 hB3 hK3 h33 h53 t3 t5 hbg hPg hback hset hkk hcs hcl hln hmc h0 h1 hn hend b1 b2 b3 b4 r3 r5 hx a2 q4 q5 q0 q1 q2 q3;go_wp2_with (first
        | (go_at_call 41;with_reducible refine (Q6.calls (x.f3.length+1) (fun k=>some k=(Value.slice A3 x.f3.length c3).ownBlock) (Value.slice A3 x.f3.length c3) x.f3 (kk+1+1+1) _ _ w0 _ HB3.out H33.out F3.out).mono ?_
           rintro e W4 ⟨rfl,hR4,hB4,hK4⟩;have hh4:=(hK4.2 g (blk_lt HH3.out) (fun e=>(T3.out g e).2.1 rfl)).trans HH3.out;have p4:=(zzk hh4 (m * 6+4)).trans ((Array.getElem?_setIfInBounds_ne (by omega)).trans ((Array.getElem?_setIfInBounds_ne (by omega)).trans ((Array.getElem?_setIfInBounds_ne (by omega)).trans Q4.out)));have z4:=zzl hh4 (m * 6+4);have p5:=(zzk hh4 (m * 6+5)).trans ((Array.getElem?_setIfInBounds_ne (by omega)).trans ((Array.getElem?_setIfInBounds_ne (by omega)).trans ((Array.getElem?_setIfInBounds_ne (by omega)).trans Q5.out)));have HH5:=zzm (zzi hh4 (m * 6+4) (.bool (Int.tmod (kk+1+1+1+(x.f3.length:Int)) 3==0)) rfl);have HB5:=zzm (zzd (j:=m * 6+4) (v:=.bool (Int.tmod (kk+1+1+1+(x.f3.length:Int)) 3==0)) hB4 HBG.out);have HK5:=zzm (Kept.setCell (p:=⟨g,m * 6+4,none⟩) (HK3.out.then_ hK4 (fun k h=>.inl (.inr (.inl h)))) (.inl (.inl rfl)) (.bool (Int.tmod (kk+1+1+1+(x.f3.length:Int)) 3==0)));have H35:=zzm (Kd.R_far (p:=⟨g,m * 6+4,none⟩) (Kd.R_tight rfl hR4) (fun k hk=>(T3.out k hk).2.1) (.bool (Int.tmod (kk+1+1+1+(x.f3.length:Int)) 3==0)));have H55:=zzm (Kd.R_far (p:=⟨g,m * 6+4,none⟩) (Kd.R_kept H53.out hK4 (fun k hk h2=>(T3.out k h2).2.2 hk)) (fun k hk=>(T5.out k hk).2) (.bool (Int.tmod (kk+1+1+1+(x.f3.length:Int)) 3==0)));clear hR4 hB4 hK4 hh4)
        | (go_at_call 41;with_reducible refine (Q6.calls (x.f5.length+1) (fun k=>some k=(Value.slice A5 x.f5.length c5).ownBlock) (Value.slice A5 x.f5.length c5) x.f5 (kk+1+1+1+(x.f3.length:Int)+1) _ _ w0 _ HB5.out H55.out F5.out).mono ?_
           rintro e W6 ⟨rfl,hR6,hB6,hK6⟩;have HH6:=zzm ((hK6.2 g (blk_lt HH5.out) (fun e=>(T5.out g e).2 rfl)).trans HH5.out);have HB6:=zzm hB6;have HK6:=zzm (HK5.out.then_ hK6 (fun k h=>.inl (.inr (.inr h))));have H36:=zzm (Kd.R_kept H35.out hK6 (fun k hk h2=>(T3.out k hk).2.2 h2));have H56:=zzm (Kd.R_tight rfl hR6);clear hR6 hB6 hK6))
      go_roundw
      case rel=>
        obtain ⟨s1,s2,s3,s4,s5,s6⟩:=FS.out;have hS6:=HBK.out _ _ ⟨kk,kk+1,Int.tmod (kk+1+1) 3==0,uptoI (kk+1+1+1) x.f3.length,Int.tmod (kk+1+1+1+(x.f3.length:Int)) 3==0,uptoI (kk+1+1+1+(x.f3.length:Int)+1) x.f5.length⟩ HH6.out s1 s2 s3 s4 s5 s6 H36.out H56.out (fun k hk h1 h2 h3=>HK6.out.2 k hk (fun h=>h.elim h1 (fun h=>h.elim h2 h3)));rw [HSET.out] at hS6;exact ⟨m+1,hlt,congrArg (Value.int .i64) HE.out,by first|exact congrArg (Value.int .i64) e5|exact congrArg (Value.int .i64) (by omega),hS6,HB6.out,HK1.out.then_ (HK6.out.mono (fun k hk=>hk.elim (fun e=>e ▸ HPG.out) (fun h=>h.elim (fun h=>(T3.out k h).1) (fun h=>(T5.out k h).1)))) (fun k h=>.inl h)⟩
      case measure=>exact meas_lt (by first|exact congrArg (Value.int .i64) e5|rfl) hlt
    · obtain rfl:m=n:=by omega
      have hmi:¬ ((m:Nat):Int) < ((m:Nat):Int):=by omega
      have a0:l0.take m=l0:=by rw [hn,List.take_length]
      have a3:l0.drop m = []:=by rw [hn,List.drop_length]
      rw [a0];have a4:=zzm a0;have a5:=zzm a3;clear a0 a3 hn;go_wp2;go_ret;have hS:=HS.out;rw [a4.out,a5.out,List.append_nil] at hS;exact ⟨rfl,hS,HB1.out,HK1.out⟩
end

set_option linter.unusedVariables false
set_option linter.unusedSimpArgs false
def Qq.l0:Nat→List Int→Int→Int→Option (Int)
 | 0,_,_,_=>none
 | k+1,x0,x1,x5=>if x5 < (x0.length:Int) then (if 0≤x5 then (if (rd x0 x5)=x1 then (Qq.l0 k x0 (wrap64 (x1+1)) (wrap64 (x5+1))) else (some (-1))) else (none)) else (some x1)
def Qq.f (k:Nat) (l0:List Int) (a1:Int):Option (Int):=Qq.l0 k l0 a1 0
set_option maxHeartbeats 8000000 in
theorem Qq.calls (k:Nat) (A0:Option Addr) (c0:Nat) (l0:List Int) (a1:Int) (r:Int) (w:World) (a8:Kd.C (Kd.int .i64) w A0 l0.length l0) (a9:l0.length≤c0) (h:Qq.f k l0 a1=some r) :
  Calls Try.prog 42 #[.slice A0 l0.length c0,.int .i64 a1] w fun e w'=>e = .returned (.int .i64 r)∧Drawn0 w w':=by
 have b0:=zzm a8;have b5:=zzm a9;clear a8 a9;have H:(Qq.l0 k l0 a1 0)=some r:=h;clear h;have H':=zzm H;clear H;go_enter Try.func42,Try.ntmps42;go_wp2;go_loopg [1,5] k (fun kq v1 v5 w'=>∃ (a4:Int) (a0:Int),v1 = .int .i64 a4∧v5 = .int .i64 a0∧Aside0 (Qq.l0 kq l0 a4 a0=some r)∧Aside0 (kq≤k)∧Drawn0 w w')
 case atStart=>exact ⟨(a1),(0),(by first|rfl|(simp;done)|(simp [*];done)),(by first|rfl|(simp;done)|(simp [*];done)),H',⟨Nat.le_refl _⟩,by repeat (first|exact Drawn0.refl _|apply Drawn0.step)⟩
 case round=>
  clear H';try clear p2
  obtain ⟨a4,a0,rfl,rfl,HA,HK1,⟨m1,rfl⟩⟩:=hrel;cases gk with
  | zero=>exact absurd HA.out (by simp [Qq.l0])
  | succ k1=>
   have H:=HA.out;clear HA;simp only [Qq.l0] at H;by_cases c3:a0 < (l0.length:Int)
   ·
    rw [if_pos c3] at H;have b1:decide (a0 < (l0.length:Int))=true:=decide_eq_true c3;clear c3;by_cases c4 : 0≤a0
    ·
     rw [if_pos c4] at H;have b4:decide (0≤a0)=true:=decide_eq_true c4;clear c4;by_cases c5:(rd l0 a0)=a4
     ·
      rw [if_pos c5] at H;obtain ⟨b2,b3⟩:=zzQ c5;clear c5;have H':=zzm H;clear H;have a2 : 0≤(a0:Int):=zzt;have a3:a0 < (l0.length:Int):=zzt;obtain ⟨a7,a5,a6⟩:=Kd.at_int b0.out a0 a2 a3;cases a5;replace a2:=eq_true a2;replace a3:=eq_true a3;go_wp2;go_roundg k1
      case measure=>have:=HK1.out;omega
      case rel=>exact ⟨(wrap64 (a4+1)),(wrap64 (a0+1)),(by first|rfl|(simp;done)|(simp [*];done)),(by first|rfl|(simp;done)|(simp [*];done)),H',⟨by have:=HK1.out;omega⟩,by repeat (first|exact Drawn0.refl _|apply Drawn0.step)⟩
     ·
      rw [if_neg c5] at H;obtain ⟨b2,b3⟩:=zzY c5;obtain rfl:=Option.some.inj H;have a2 : 0≤(a0:Int):=zzt;have a3:a0 < (l0.length:Int):=zzt;obtain ⟨a7,a5,a6⟩:=Kd.at_int b0.out a0 a2 a3;cases a5;replace a2:=eq_true a2;replace a3:=eq_true a3;go_wp2;go_ret;exact ⟨by first|rfl|(simp;done)|(simp [*];done),by repeat (first|exact Drawn0.refl _|apply Drawn0.step)⟩
    ·
     rw [if_neg c4] at H;exact absurd H (by simp)
   ·
    rw [if_neg c3] at H;have b1:decide (a0 < (l0.length:Int))=false:=decide_eq_false c3;clear c3;obtain rfl:=Option.some.inj H;go_wp2;go_ret;exact ⟨by first|rfl|(simp;done)|(simp [*];done),by repeat (first|exact Drawn0.refl _|apply Drawn0.step)⟩

set_option linter.unusedVariables false
set_option linter.unusedSimpArgs false
def Qr.l0:Nat→List (S47)→Int→Int→Option (Int)
 | 0,_,_,_=>none
 | k+1,x0,x1,x5=>if x5 < (x0.length:Int) then (if 0≤x5 then (if ((Qb x0 x5).f0)=x1 then (if ((Qb x0 x5).f1)=(wrap64 (x1+1)) then (if (((Qb x0 x5).f2) != ((Int.tmod (wrap64 ((wrap64 (x1+1))+1)) 3)==0))=true then (some (-1)) else ((Qq.f k ((Qb x0 x5).f3) (wrap64 ((wrap64 ((wrap64 (x1+1))+1))+1))).bind fun t344=>(if t344 < 0 then (some (-1)) else (if (((Qb x0 x5).f4) != ((Int.tmod t344 3)==0))=true then (some (-1)) else ((Qq.f k ((Qb x0 x5).f5) (wrap64 (t344+1))).bind fun t347=>(if t347 < 0 then (some (-1)) else (Qr.l0 k x0 t347 (wrap64 (x5+1))))))))) else (some (-1))) else (some (-1))) else (none)) else (some x1)
def Qr.f (k:Nat) (l0:List (S47)) (a1:Int):Option (Int):=Qr.l0 k l0 a1 0
set_option maxHeartbeats 8000000 in
theorem Qr.calls (k:Nat) (A0:Option Addr) (c0:Nat) (l0:List (S47)) (a1:Int) (r:Int) (w:World) (s0:Kd.C k47 w A0 l0.length l0) (s1:l0.length≤c0) (h:Qr.f k l0 a1=some r) :
  Calls Try.prog 24 #[.slice A0 l0.length c0,.int .i64 a1] w fun e w'=>e = .returned (.int .i64 r)∧Drawn0 w w':=by
 have d0:=zzm s0;have t5:=zzm s1;clear s0 s1;have H:(Qr.l0 k l0 a1 0)=some r:=h;clear h;have H':=zzm H;clear H;go_enter Try.func24,Try.ntmps24;go_wp2;go_loopg [1,5] k (fun kq v1 v5 w'=>∃ (c8:Int) (a0:Int),v1 = .int .i64 c8∧v5 = .int .i64 a0∧Aside0 (Qr.l0 kq l0 c8 a0=some r)∧Aside0 (kq≤k)∧Drawn0 w w')
 case atStart=>exact ⟨(a1),(0),(by first|rfl|(simp;done)|(simp [*];done)),(by first|rfl|(simp;done)|(simp [*];done)),H',⟨Nat.le_refl _⟩,by repeat (first|exact Drawn0.refl _|apply Drawn0.step)⟩
 case round=>
  clear H';try clear c2
  try clear p2
  obtain ⟨c8,a0,rfl,rfl,HA,HK1,⟨m1,rfl⟩⟩:=hrel;cases gk with
  | zero=>exact absurd HA.out (by simp [Qr.l0])
  | succ k1=>
   have H:=HA.out;clear HA;simp only [Qr.l0] at H;by_cases c3:a0 < (l0.length:Int)
   ·
    rw [if_pos c3] at H;have s3:decide (a0 < (l0.length:Int))=true:=decide_eq_true c3;clear c3;by_cases c4 : 0≤a0
    ·
     rw [if_pos c4] at H;have t3:decide (0≤a0)=true:=decide_eq_true c4;clear c4;by_cases c5:((Qb l0 a0).f0)=c8
     ·
      rw [if_pos c5] at H;obtain ⟨s4,s5⟩:=zzQ c5;clear c5;by_cases c6:((Qb l0 a0).f1)=(wrap64 (c8+1))
      ·
       rw [if_pos c6] at H;obtain ⟨s6,s7⟩:=zzQ c6;clear c6;by_cases c7:(((Qb l0 a0).f2) != ((Int.tmod (wrap64 ((wrap64 (c8+1))+1)) 3)==0))=true
       ·
        rw [if_pos c7] at H;have s8:(((Qb l0 a0).f2) != ((Int.tmod (wrap64 ((wrap64 (c8+1))+1)) 3)==0))=true:=c7
        (try (have s9:decide (((Qb l0 a0).f2)=((Int.tmod (wrap64 ((wrap64 (c8+1))+1)) 3)==0))=false:=by simpa using c7))
        (try (have t0:(((Qb l0 a0).f2)==((Int.tmod (wrap64 ((wrap64 (c8+1))+1)) 3)==0))=false:=by simpa using c7))
        (try (have t4:¬ (((Qb l0 a0).f2)=((Int.tmod (wrap64 ((wrap64 (c8+1))+1)) 3)==0)):=by simpa using c7));clear c7;obtain rfl:=Option.some.inj H;have b3 : 0≤(a0:Int):=zzt;have b4:a0 < (l0.length:Int):=zzt;obtain ⟨a8,e2,e3,g6,g7,g1,g9,h0,h1,a2,h2,a3,a4,a5,a6,a7⟩:=Qs d0.out a0 b3 b4;cases g1;have h3:=zzm a5;have h4:=zzm a4;clear a5 a4;have h5:=zzm a7;have h6:=zzm a6;clear a7 a6;replace b3:=eq_true b3;replace b4:=eq_true b4;have b9 : 0≤(a0:Int):=zzt;have c1:a0 < (l0.length:Int):=zzt;obtain ⟨g0,l2,l3,l4,l5,h7,j3,j4,j5,d1,j6,d2,a9,b0,b1,b2⟩:=Qs d0.out a0 b9 c1;obtain rfl:a8=g0:=(by injection h7);have j7:=zzm b0;have j8:=zzm a9;clear b0 a9;have j9:=zzm b2;have k0:=zzm b1;clear b2 b1;replace b9:=eq_true b9;replace c1:=eq_true c1;have ea_:=Option.some.inj (a2.symm.trans d1);injection ea_ with ea_ en_ ec_;subst ea_;subst ec_;clear en_;have ea_:=Option.some.inj (a3.symm.trans d2);injection ea_ with ea_ en_ ec_;subst ea_;subst ec_;clear en_;have d7 : 0≤(a0:Int):=zzt;have d8:a0 < (l0.length:Int):=zzt;obtain ⟨g8,m9,n0,n1,n2,k8,l7,l8,l9,e0,m0,e1,b5,b6,b7,b8⟩:=Qs d0.out a0 d7 d8;obtain rfl:a8=g8:=(by injection k8);have m2:=zzm b6;have m3:=zzm b5;clear b6 b5;have m4:=zzm b8;have m5:=zzm b7;clear b8 b7;replace d7:=eq_true d7;replace d8:=eq_true d8;have ea_:=Option.some.inj (a2.symm.trans e0);injection ea_ with ea_ en_ ec_;subst ea_;subst ec_;clear en_;have ea_:=Option.some.inj (a3.symm.trans e1);injection ea_ with ea_ en_ ec_;subst ea_;subst ec_;clear en_;go_wp2;go_ret;exact ⟨by first|rfl|(simp;done)|(simp [*];done),by repeat (first|exact Drawn0.refl _|apply Drawn0.step)⟩
       ·
        rw [if_neg c7] at H;have s8:(((Qb l0 a0).f2) != ((Int.tmod (wrap64 ((wrap64 (c8+1))+1)) 3)==0))=false:=by simpa using c7
        (try (have s9:decide (((Qb l0 a0).f2)=((Int.tmod (wrap64 ((wrap64 (c8+1))+1)) 3)==0))=true:=by simpa using c7))
        (try (have t0:(((Qb l0 a0).f2)==((Int.tmod (wrap64 ((wrap64 (c8+1))+1)) 3)==0))=true:=by simpa using c7));clear c7;obtain ⟨d9,A8,H⟩:=zzG H;by_cases c9:d9 < 0
        ·
         rw [if_pos c9] at H;have t1:decide (d9 < 0)=true:=decide_eq_true c9;clear c9;obtain rfl:=Option.some.inj H;have b3 : 0≤(a0:Int):=zzt;have b4:a0 < (l0.length:Int):=zzt;obtain ⟨a8,e2,e3,g6,g7,g1,g9,h0,h1,a2,h2,a3,a4,a5,a6,a7⟩:=Qs d0.out a0 b3 b4;cases g1;have h3:=zzm a5;have h4:=zzm a4;clear a5 a4;have h5:=zzm a7;have h6:=zzm a6;clear a7 a6;replace b3:=eq_true b3;replace b4:=eq_true b4;have b9 : 0≤(a0:Int):=zzt;have c1:a0 < (l0.length:Int):=zzt;obtain ⟨g0,l2,l3,l4,l5,h7,j3,j4,j5,d1,j6,d2,a9,b0,b1,b2⟩:=Qs d0.out a0 b9 c1;obtain rfl:a8=g0:=(by injection h7);have j7:=zzm b0;have j8:=zzm a9;clear b0 a9;have j9:=zzm b2;have k0:=zzm b1;clear b2 b1;replace b9:=eq_true b9;replace c1:=eq_true c1;have ea_:=Option.some.inj (a2.symm.trans d1);injection ea_ with ea_ en_ ec_;subst ea_;subst ec_;clear en_;have ea_:=Option.some.inj (a3.symm.trans d2);injection ea_ with ea_ en_ ec_;subst ea_;subst ec_;clear en_;have d7 : 0≤(a0:Int):=zzt;have d8:a0 < (l0.length:Int):=zzt;obtain ⟨g8,m9,n0,n1,n2,k8,l7,l8,l9,e0,m0,e1,b5,b6,b7,b8⟩:=Qs d0.out a0 d7 d8;obtain rfl:a8=g8:=(by injection k8);have m2:=zzm b6;have m3:=zzm b5;clear b6 b5;have m4:=zzm b8;have m5:=zzm b7;clear b8 b7;replace d7:=eq_true d7;replace d8:=eq_true d8;have ea_:=Option.some.inj (a2.symm.trans e0);injection ea_ with ea_ en_ ec_;subst ea_;subst ec_;clear en_;have ea_:=Option.some.inj (a3.symm.trans e1);injection ea_ with ea_ en_ ec_;subst ea_;subst ec_;clear en_;have e4 : 0≤(a0:Int):=zzt;have e5:a0 < (l0.length:Int):=zzt;obtain ⟨k9,o5,o6,o7,o8,m6,n4,n5,n6,g2,n7,g3,d3,d4,d5,d6⟩:=Qs d0.out a0 e4 e5;obtain rfl:a8=k9:=(by injection m6);have g4:=zzm d4;have g5:=zzm d3;clear d4 d3;have n8:=zzm d6;have n9:=zzm d5;clear d6 d5;replace e4:=eq_true e4;replace e5:=eq_true e5;have ea_:=Option.some.inj (a2.symm.trans g2);injection ea_ with ea_ en_ ec_;subst ea_;subst ec_;clear en_;have ea_:=Option.some.inj (a3.symm.trans g3);injection ea_ with ea_ en_ ec_;subst ea_;subst ec_;clear en_;go_wp2_with (first|((with_reducible refine gate_callee (f:=42) rfl ?_);refine goesL_ (some 47) rfl rfl Try.func42 (by kernel_rfl) rfl #[.slice e2 ((Qb l0 a0).f3).length e3,.int .i64 (wrap64 ((wrap64 ((wrap64 (c8+1))+1))+1))] rfl zzM2 ?_;(with_reducible refine (Qq.calls k1 _ _ ((Qb l0 a0).f3) (wrap64 ((wrap64 ((wrap64 (c8+1))+1))+1)) d9 _ ?side1 ?side2 A8.out).mono ?_);(case side1=>repeat (first|exact g4.out|(with_reducible refine Kd.C_alloc ?_ _)|(with_reducible refine Kd.C_drewN ?_ _)|(with_reducible refine Kd.C_drew ?_)));(case side2=>exact g5.out);rintro e w' ⟨rfl,⟨nd,rfl⟩⟩;refine ⟨_,rfl,?_⟩));go_ret;exact ⟨by first|rfl|(simp;done)|(simp [*];done),by repeat (first|exact Drawn0.refl _|apply Drawn0.step)⟩
        ·
         rw [if_neg c9] at H;have t1:decide (d9 < 0)=false:=decide_eq_false c9;clear c9;by_cases l6:(((Qb l0 a0).f4) != ((Int.tmod d9 3)==0))=true
         ·
          rw [if_pos l6] at H;have r6:(((Qb l0 a0).f4) != ((Int.tmod d9 3)==0))=true:=l6
          (try (have r7:decide (((Qb l0 a0).f4)=((Int.tmod d9 3)==0))=false:=by simpa using l6))
          (try (have r8:(((Qb l0 a0).f4)==((Int.tmod d9 3)==0))=false:=by simpa using l6))
          (try (have t2:¬ (((Qb l0 a0).f4)=((Int.tmod d9 3)==0)):=by simpa using l6));clear l6;obtain rfl:=Option.some.inj H;have b3 : 0≤(a0:Int):=zzt;have b4:a0 < (l0.length:Int):=zzt;obtain ⟨a8,e2,e3,g6,g7,g1,g9,h0,h1,a2,h2,a3,a4,a5,a6,a7⟩:=Qs d0.out a0 b3 b4;cases g1;have h3:=zzm a5;have h4:=zzm a4;clear a5 a4;have h5:=zzm a7;have h6:=zzm a6;clear a7 a6;replace b3:=eq_true b3;replace b4:=eq_true b4;have b9 : 0≤(a0:Int):=zzt;have c1:a0 < (l0.length:Int):=zzt;obtain ⟨g0,l2,l3,l4,l5,h7,j3,j4,j5,d1,j6,d2,a9,b0,b1,b2⟩:=Qs d0.out a0 b9 c1;obtain rfl:a8=g0:=(by injection h7);have j7:=zzm b0;have j8:=zzm a9;clear b0 a9;have j9:=zzm b2;have k0:=zzm b1;clear b2 b1;replace b9:=eq_true b9;replace c1:=eq_true c1;have ea_:=Option.some.inj (a2.symm.trans d1);injection ea_ with ea_ en_ ec_;subst ea_;subst ec_;clear en_;have ea_:=Option.some.inj (a3.symm.trans d2);injection ea_ with ea_ en_ ec_;subst ea_;subst ec_;clear en_;have d7 : 0≤(a0:Int):=zzt;have d8:a0 < (l0.length:Int):=zzt;obtain ⟨g8,m9,n0,n1,n2,k8,l7,l8,l9,e0,m0,e1,b5,b6,b7,b8⟩:=Qs d0.out a0 d7 d8;obtain rfl:a8=g8:=(by injection k8);have m2:=zzm b6;have m3:=zzm b5;clear b6 b5;have m4:=zzm b8;have m5:=zzm b7;clear b8 b7;replace d7:=eq_true d7;replace d8:=eq_true d8;have ea_:=Option.some.inj (a2.symm.trans e0);injection ea_ with ea_ en_ ec_;subst ea_;subst ec_;clear en_;have ea_:=Option.some.inj (a3.symm.trans e1);injection ea_ with ea_ en_ ec_;subst ea_;subst ec_;clear en_;have e4 : 0≤(a0:Int):=zzt;have e5:a0 < (l0.length:Int):=zzt;obtain ⟨k9,o5,o6,o7,o8,m6,n4,n5,n6,g2,n7,g3,d3,d4,d5,d6⟩:=Qs d0.out a0 e4 e5;obtain rfl:a8=k9:=(by injection m6);have g4:=zzm d4;have g5:=zzm d3;clear d4 d3;have n8:=zzm d6;have n9:=zzm d5;clear d6 d5;replace e4:=eq_true e4;replace e5:=eq_true e5;have ea_:=Option.some.inj (a2.symm.trans g2);injection ea_ with ea_ en_ ec_;subst ea_;subst ec_;clear en_;have ea_:=Option.some.inj (a3.symm.trans g3);injection ea_ with ea_ en_ ec_;subst ea_;subst ec_;clear en_;go_wp2_with (first|((with_reducible refine gate_callee (f:=42) rfl ?_);refine goesL_ (some 47) rfl rfl Try.func42 (by kernel_rfl) rfl #[.slice e2 ((Qb l0 a0).f3).length e3,.int .i64 (wrap64 ((wrap64 ((wrap64 (c8+1))+1))+1))] rfl zzM2 ?_;(with_reducible refine (Qq.calls k1 _ _ ((Qb l0 a0).f3) (wrap64 ((wrap64 ((wrap64 (c8+1))+1))+1)) d9 _ ?side1 ?side2 A8.out).mono ?_);(case side1=>repeat (first|exact g4.out|(with_reducible refine Kd.C_alloc ?_ _)|(with_reducible refine Kd.C_drewN ?_ _)|(with_reducible refine Kd.C_drew ?_)));(case side2=>exact g5.out);rintro e w' ⟨rfl,⟨nd,rfl⟩⟩;refine ⟨_,rfl,?_⟩;have h8 : 0≤(a0:Int):=zzt;have h9:a0 < (l0.length:Int):=zzt;obtain ⟨n3,q1,q2,q3,q4,o9,p0,p1,p3,k2,p4,k3,e6,e7,e8,e9⟩:=Qs d0.out a0 h8 h9;obtain rfl:a8=n3:=(by injection o9);have p5:=zzm e7;have p6:=zzm e6;clear e7 e6;have p7:=zzm e9;have p8:=zzm e8;clear e9 e8;replace h8:=eq_true h8;replace h9:=eq_true h9;have ea_:=Option.some.inj (a2.symm.trans k2);injection ea_ with ea_ en_ ec_;subst ea_;subst ec_;clear en_;have ea_:=Option.some.inj (a3.symm.trans k3);injection ea_ with ea_ en_ ec_;subst ea_;subst ec_;clear en_));go_ret;exact ⟨by first|rfl|(simp;done)|(simp [*];done),by repeat (first|exact Drawn0.refl _|apply Drawn0.step)⟩
         ·
          rw [if_neg l6] at H;have r6:(((Qb l0 a0).f4) != ((Int.tmod d9 3)==0))=false:=by simpa using l6
          (try (have r7:decide (((Qb l0 a0).f4)=((Int.tmod d9 3)==0))=true:=by simpa using l6))
          (try (have r8:(((Qb l0 a0).f4)==((Int.tmod d9 3)==0))=true:=by simpa using l6));clear l6;obtain ⟨o0,s2,H⟩:=zzG H;by_cases p9:o0 < 0
          ·
           rw [if_pos p9] at H;have r9:decide (o0 < 0)=true:=decide_eq_true p9;clear p9;obtain rfl:=Option.some.inj H;have b3 : 0≤(a0:Int):=zzt;have b4:a0 < (l0.length:Int):=zzt;obtain ⟨a8,e2,e3,g6,g7,g1,g9,h0,h1,a2,h2,a3,a4,a5,a6,a7⟩:=Qs d0.out a0 b3 b4;cases g1;have h3:=zzm a5;have h4:=zzm a4;clear a5 a4;have h5:=zzm a7;have h6:=zzm a6;clear a7 a6;replace b3:=eq_true b3;replace b4:=eq_true b4;have b9 : 0≤(a0:Int):=zzt;have c1:a0 < (l0.length:Int):=zzt;obtain ⟨g0,l2,l3,l4,l5,h7,j3,j4,j5,d1,j6,d2,a9,b0,b1,b2⟩:=Qs d0.out a0 b9 c1;obtain rfl:a8=g0:=(by injection h7);have j7:=zzm b0;have j8:=zzm a9;clear b0 a9;have j9:=zzm b2;have k0:=zzm b1;clear b2 b1;replace b9:=eq_true b9;replace c1:=eq_true c1;have ea_:=Option.some.inj (a2.symm.trans d1);injection ea_ with ea_ en_ ec_;subst ea_;subst ec_;clear en_;have ea_:=Option.some.inj (a3.symm.trans d2);injection ea_ with ea_ en_ ec_;subst ea_;subst ec_;clear en_;have d7 : 0≤(a0:Int):=zzt;have d8:a0 < (l0.length:Int):=zzt;obtain ⟨g8,m9,n0,n1,n2,k8,l7,l8,l9,e0,m0,e1,b5,b6,b7,b8⟩:=Qs d0.out a0 d7 d8;obtain rfl:a8=g8:=(by injection k8);have m2:=zzm b6;have m3:=zzm b5;clear b6 b5;have m4:=zzm b8;have m5:=zzm b7;clear b8 b7;replace d7:=eq_true d7;replace d8:=eq_true d8;have ea_:=Option.some.inj (a2.symm.trans e0);injection ea_ with ea_ en_ ec_;subst ea_;subst ec_;clear en_;have ea_:=Option.some.inj (a3.symm.trans e1);injection ea_ with ea_ en_ ec_;subst ea_;subst ec_;clear en_;have e4 : 0≤(a0:Int):=zzt;have e5:a0 < (l0.length:Int):=zzt;obtain ⟨k9,o5,o6,o7,o8,m6,n4,n5,n6,g2,n7,g3,d3,d4,d5,d6⟩:=Qs d0.out a0 e4 e5;obtain rfl:a8=k9:=(by injection m6);have g4:=zzm d4;have g5:=zzm d3;clear d4 d3;have n8:=zzm d6;have n9:=zzm d5;clear d6 d5;replace e4:=eq_true e4;replace e5:=eq_true e5;have ea_:=Option.some.inj (a2.symm.trans g2);injection ea_ with ea_ en_ ec_;subst ea_;subst ec_;clear en_;have ea_:=Option.some.inj (a3.symm.trans g3);injection ea_ with ea_ en_ ec_;subst ea_;subst ec_;clear en_;go_wp2_with (first|((with_reducible refine gate_callee (f:=42) rfl ?_);refine goesL_ (some 47) rfl rfl Try.func42 (by kernel_rfl) rfl #[.slice e2 ((Qb l0 a0).f3).length e3,.int .i64 (wrap64 ((wrap64 ((wrap64 (c8+1))+1))+1))] rfl zzM2 ?_;(with_reducible refine (Qq.calls k1 _ _ ((Qb l0 a0).f3) (wrap64 ((wrap64 ((wrap64 (c8+1))+1))+1)) d9 _ ?side1 ?side2 A8.out).mono ?_);(case side1=>repeat (first|exact g4.out|(with_reducible refine Kd.C_alloc ?_ _)|(with_reducible refine Kd.C_drewN ?_ _)|(with_reducible refine Kd.C_drew ?_)));(case side2=>exact g5.out);rintro e w' ⟨rfl,⟨nd,rfl⟩⟩;refine ⟨_,rfl,?_⟩;have h8 : 0≤(a0:Int):=zzt;have h9:a0 < (l0.length:Int):=zzt;obtain ⟨n3,q1,q2,q3,q4,o9,p0,p1,p3,k2,p4,k3,e6,e7,e8,e9⟩:=Qs d0.out a0 h8 h9;obtain rfl:a8=n3:=(by injection o9);have p5:=zzm e7;have p6:=zzm e6;clear e7 e6;have p7:=zzm e9;have p8:=zzm e8;clear e9 e8;replace h8:=eq_true h8;replace h9:=eq_true h9;have ea_:=Option.some.inj (a2.symm.trans k2);injection ea_ with ea_ en_ ec_;subst ea_;subst ec_;clear en_;have ea_:=Option.some.inj (a3.symm.trans k3);injection ea_ with ea_ en_ ec_;subst ea_;subst ec_;clear en_;have m7 : 0≤(a0:Int):=zzt;have m8:a0 < (l0.length:Int):=zzt;obtain ⟨q0,r2,r3,r4,r5,q5,q6,q7,q8,o1,q9,o2,k4,k5,k6,k7⟩:=Qs d0.out a0 m7 m8;obtain rfl:a8=q0:=(by injection q5);have r0:=zzm k5;have r1:=zzm k4;clear k5 k4;have o3:=zzm k7;have o4:=zzm k6;clear k7 k6;replace m7:=eq_true m7;replace m8:=eq_true m8;have ea_:=Option.some.inj (a2.symm.trans o1);injection ea_ with ea_ en_ ec_;subst ea_;subst ec_;clear en_;have ea_:=Option.some.inj (a3.symm.trans o2);injection ea_ with ea_ en_ ec_;subst ea_;subst ec_;clear en_)|((with_reducible refine gate_callee (f:=42) rfl ?_);refine goesL_ (some 67) rfl rfl Try.func42 (by kernel_rfl) rfl #[.slice g6 ((Qb l0 a0).f5).length g7,.int .i64 (wrap64 (d9+1))] rfl zzM2 ?_;(with_reducible refine (Qq.calls k1 _ _ ((Qb l0 a0).f5) (wrap64 (d9+1)) o0 _ ?side1 ?side2 s2.out).mono ?_);(case side1=>repeat (first|exact o3.out|(with_reducible refine Kd.C_alloc ?_ _)|(with_reducible refine Kd.C_drewN ?_ _)|(with_reducible refine Kd.C_drew ?_)));(case side2=>exact o4.out);rintro e w' ⟨rfl,⟨nd,rfl⟩⟩;refine ⟨_,rfl,?_⟩));go_ret;exact ⟨by first|rfl|(simp;done)|(simp [*];done),by repeat (first|exact Drawn0.refl _|apply Drawn0.step)⟩
          ·
           rw [if_neg p9] at H;have r9:decide (o0 < 0)=false:=decide_eq_false p9;clear p9;have H':=zzm H;clear H;have b3 : 0≤(a0:Int):=zzt;have b4:a0 < (l0.length:Int):=zzt;obtain ⟨a8,e2,e3,g6,g7,g1,g9,h0,h1,a2,h2,a3,a4,a5,a6,a7⟩:=Qs d0.out a0 b3 b4;cases g1;have h3:=zzm a5;have h4:=zzm a4;clear a5 a4;have h5:=zzm a7;have h6:=zzm a6;clear a7 a6;replace b3:=eq_true b3;replace b4:=eq_true b4;have b9 : 0≤(a0:Int):=zzt;have c1:a0 < (l0.length:Int):=zzt;obtain ⟨g0,l2,l3,l4,l5,h7,j3,j4,j5,d1,j6,d2,a9,b0,b1,b2⟩:=Qs d0.out a0 b9 c1;obtain rfl:a8=g0:=(by injection h7);have j7:=zzm b0;have j8:=zzm a9;clear b0 a9;have j9:=zzm b2;have k0:=zzm b1;clear b2 b1;replace b9:=eq_true b9;replace c1:=eq_true c1;have ea_:=Option.some.inj (a2.symm.trans d1);injection ea_ with ea_ en_ ec_;subst ea_;subst ec_;clear en_;have ea_:=Option.some.inj (a3.symm.trans d2);injection ea_ with ea_ en_ ec_;subst ea_;subst ec_;clear en_;have d7 : 0≤(a0:Int):=zzt;have d8:a0 < (l0.length:Int):=zzt;obtain ⟨g8,m9,n0,n1,n2,k8,l7,l8,l9,e0,m0,e1,b5,b6,b7,b8⟩:=Qs d0.out a0 d7 d8;obtain rfl:a8=g8:=(by injection k8);have m2:=zzm b6;have m3:=zzm b5;clear b6 b5;have m4:=zzm b8;have m5:=zzm b7;clear b8 b7;replace d7:=eq_true d7;replace d8:=eq_true d8;have ea_:=Option.some.inj (a2.symm.trans e0);injection ea_ with ea_ en_ ec_;subst ea_;subst ec_;clear en_;have ea_:=Option.some.inj (a3.symm.trans e1);injection ea_ with ea_ en_ ec_;subst ea_;subst ec_;clear en_;have e4 : 0≤(a0:Int):=zzt;have e5:a0 < (l0.length:Int):=zzt;obtain ⟨k9,o5,o6,o7,o8,m6,n4,n5,n6,g2,n7,g3,d3,d4,d5,d6⟩:=Qs d0.out a0 e4 e5;obtain rfl:a8=k9:=(by injection m6);have g4:=zzm d4;have g5:=zzm d3;clear d4 d3;have n8:=zzm d6;have n9:=zzm d5;clear d6 d5;replace e4:=eq_true e4;replace e5:=eq_true e5;have ea_:=Option.some.inj (a2.symm.trans g2);injection ea_ with ea_ en_ ec_;subst ea_;subst ec_;clear en_;have ea_:=Option.some.inj (a3.symm.trans g3);injection ea_ with ea_ en_ ec_;subst ea_;subst ec_;clear en_;go_wp2_with (first|((with_reducible refine gate_callee (f:=42) rfl ?_);refine goesL_ (some 47) rfl rfl Try.func42 (by kernel_rfl) rfl #[.slice e2 ((Qb l0 a0).f3).length e3,.int .i64 (wrap64 ((wrap64 ((wrap64 (c8+1))+1))+1))] rfl zzM2 ?_;(with_reducible refine (Qq.calls k1 _ _ ((Qb l0 a0).f3) (wrap64 ((wrap64 ((wrap64 (c8+1))+1))+1)) d9 _ ?side1 ?side2 A8.out).mono ?_);(case side1=>repeat (first|exact g4.out|(with_reducible refine Kd.C_alloc ?_ _)|(with_reducible refine Kd.C_drewN ?_ _)|(with_reducible refine Kd.C_drew ?_)));(case side2=>exact g5.out);rintro e w' ⟨rfl,⟨nd,rfl⟩⟩;refine ⟨_,rfl,?_⟩;have h8 : 0≤(a0:Int):=zzt;have h9:a0 < (l0.length:Int):=zzt;obtain ⟨n3,q1,q2,q3,q4,o9,p0,p1,p3,k2,p4,k3,e6,e7,e8,e9⟩:=Qs d0.out a0 h8 h9;obtain rfl:a8=n3:=(by injection o9);have p5:=zzm e7;have p6:=zzm e6;clear e7 e6;have p7:=zzm e9;have p8:=zzm e8;clear e9 e8;replace h8:=eq_true h8;replace h9:=eq_true h9;have ea_:=Option.some.inj (a2.symm.trans k2);injection ea_ with ea_ en_ ec_;subst ea_;subst ec_;clear en_;have ea_:=Option.some.inj (a3.symm.trans k3);injection ea_ with ea_ en_ ec_;subst ea_;subst ec_;clear en_;have m7 : 0≤(a0:Int):=zzt;have m8:a0 < (l0.length:Int):=zzt;obtain ⟨q0,r2,r3,r4,r5,q5,q6,q7,q8,o1,q9,o2,k4,k5,k6,k7⟩:=Qs d0.out a0 m7 m8;obtain rfl:a8=q0:=(by injection q5);have r0:=zzm k5;have r1:=zzm k4;clear k5 k4;have o3:=zzm k7;have o4:=zzm k6;clear k7 k6;replace m7:=eq_true m7;replace m8:=eq_true m8;have ea_:=Option.some.inj (a2.symm.trans o1);injection ea_ with ea_ en_ ec_;subst ea_;subst ec_;clear en_;have ea_:=Option.some.inj (a3.symm.trans o2);injection ea_ with ea_ en_ ec_;subst ea_;subst ec_;clear en_)|((with_reducible refine gate_callee (f:=42) rfl ?_);refine goesL_ (some 67) rfl rfl Try.func42 (by kernel_rfl) rfl #[.slice g6 ((Qb l0 a0).f5).length g7,.int .i64 (wrap64 (d9+1))] rfl zzM2 ?_;(with_reducible refine (Qq.calls k1 _ _ ((Qb l0 a0).f5) (wrap64 (d9+1)) o0 _ ?side1 ?side2 s2.out).mono ?_);(case side1=>repeat (first|exact o3.out|(with_reducible refine Kd.C_alloc ?_ _)|(with_reducible refine Kd.C_drewN ?_ _)|(with_reducible refine Kd.C_drew ?_)));(case side2=>exact o4.out);rintro e w' ⟨rfl,⟨nd,rfl⟩⟩;refine ⟨_,rfl,?_⟩));go_roundg k1
           case measure=>have:=HK1.out;omega
           case rel=>exact ⟨(o0),(wrap64 (a0+1)),(by first|rfl|(simp;done)|(simp [*];done)),(by first|rfl|(simp;done)|(simp [*];done)),H',⟨by have:=HK1.out;omega⟩,by repeat (first|exact Drawn0.refl _|apply Drawn0.step)⟩
      ·
       rw [if_neg c6] at H;obtain ⟨s6,s7⟩:=zzY c6;obtain rfl:=Option.some.inj H;have b3 : 0≤(a0:Int):=zzt;have b4:a0 < (l0.length:Int):=zzt;obtain ⟨a8,e2,e3,g6,g7,g1,g9,h0,h1,a2,h2,a3,a4,a5,a6,a7⟩:=Qs d0.out a0 b3 b4;cases g1;have h3:=zzm a5;have h4:=zzm a4;clear a5 a4;have h5:=zzm a7;have h6:=zzm a6;clear a7 a6;replace b3:=eq_true b3;replace b4:=eq_true b4;have b9 : 0≤(a0:Int):=zzt;have c1:a0 < (l0.length:Int):=zzt;obtain ⟨g0,l2,l3,l4,l5,h7,j3,j4,j5,d1,j6,d2,a9,b0,b1,b2⟩:=Qs d0.out a0 b9 c1;obtain rfl:a8=g0:=(by injection h7);have j7:=zzm b0;have j8:=zzm a9;clear b0 a9;have j9:=zzm b2;have k0:=zzm b1;clear b2 b1;replace b9:=eq_true b9;replace c1:=eq_true c1;have ea_:=Option.some.inj (a2.symm.trans d1);injection ea_ with ea_ en_ ec_;subst ea_;subst ec_;clear en_;have ea_:=Option.some.inj (a3.symm.trans d2);injection ea_ with ea_ en_ ec_;subst ea_;subst ec_;clear en_;go_wp2;go_ret;exact ⟨by first|rfl|(simp;done)|(simp [*];done),by repeat (first|exact Drawn0.refl _|apply Drawn0.step)⟩
     ·
      rw [if_neg c5] at H;obtain ⟨s4,s5⟩:=zzY c5;obtain rfl:=Option.some.inj H;have b3 : 0≤(a0:Int):=zzt;have b4:a0 < (l0.length:Int):=zzt;obtain ⟨a8,e2,e3,g6,g7,g1,g9,h0,h1,a2,h2,a3,a4,a5,a6,a7⟩:=Qs d0.out a0 b3 b4;cases g1;have h3:=zzm a5;have h4:=zzm a4;clear a5 a4;have h5:=zzm a7;have h6:=zzm a6;clear a7 a6;replace b3:=eq_true b3;replace b4:=eq_true b4;go_wp2;go_ret;exact ⟨by first|rfl|(simp;done)|(simp [*];done),by repeat (first|exact Drawn0.refl _|apply Drawn0.step)⟩
    ·
     rw [if_neg c4] at H;exact absurd H (by simp)
   ·
    rw [if_neg c3] at H;have s3:decide (a0 < (l0.length:Int))=false:=decide_eq_false c3;clear c3;obtain rfl:=Option.some.inj H;go_wp2;go_ret;exact ⟨by first|rfl|(simp;done)|(simp [*];done),by repeat (first|exact Drawn0.refl _|apply Drawn0.step)⟩

set_option linter.unusedVariables false
set_option linter.unusedSimpArgs false
def Qm.l0:Nat→List (S39)→Int→Int→Option (Int)
 | 0,_,_,_=>none
 | k+1,x0,x1,x5=>if x5 < (x0.length:Int) then (if 0≤x5 then (if (((Qa x0 x5).f0) != ((Int.tmod x1 3)==0))=true then (some (-1)) else (if (((Qa x0 x5).f1) != ((Int.tmod (wrap64 (x1+1)) 3)==0))=true then (some (-1)) else (if ((Qa x0 x5).f2)=(wrap64 ((wrap64 (x1+1))+1)) then (if ((Qa x0 x5).f3)=(wrap64 ((wrap64 ((wrap64 (x1+1))+1))+1)) then (if ((Qa x0 x5).f4)=(wrap64 ((wrap64 ((wrap64 ((wrap64 (x1+1))+1))+1))+1)) then ((Qr.f k ((Qa x0 x5).f5) (wrap64 ((wrap64 ((wrap64 ((wrap64 ((wrap64 (x1+1))+1))+1))+1))+1))).bind fun t354=>(if t354 < 0 then (some (-1)) else (Qm.l0 k x0 t354 (wrap64 (x5+1))))) else (some (-1))) else (some (-1))) else (some (-1))))) else (none)) else (some x1)
def Qm.f (k:Nat) (l0:List (S39)) (a1:Int):Option (Int):=Qm.l0 k l0 a1 0
set_option maxHeartbeats 8000000 in
theorem Qm.calls (k:Nat) (A0:Option Addr) (c0:Nat) (l0:List (S39)) (a1:Int) (r:Int) (w:World) (n9:Kd.C k39 w A0 l0.length l0) (o0:l0.length≤c0) (h:Qm.f k l0 a1=some r) :
  Calls Try.prog 10 #[.slice A0 l0.length c0,.int .i64 a1] w fun e w'=>e = .returned (.int .i64 r)∧Drawn0 w w':=by
 have b5:=zzm n9;have p9:=zzm o0;clear n9 o0;have H:(Qm.l0 k l0 a1 0)=some r:=h;clear h;have H':=zzm H;clear H;go_enter Try.func10,Try.ntmps10;go_wp2;go_loopg [1,5] k (fun kq v1 v5 w'=>∃ (b0:Int) (a0:Int),v1 = .int .i64 b0∧v5 = .int .i64 a0∧Aside0 (Qm.l0 kq l0 b0 a0=some r)∧Aside0 (kq≤k)∧Drawn0 w w')
 case atStart=>exact ⟨(a1),(0),(by first|rfl|(simp;done)|(simp [*];done)),(by first|rfl|(simp;done)|(simp [*];done)),H',⟨Nat.le_refl _⟩,by repeat (first|exact Drawn0.refl _|apply Drawn0.step)⟩
 case round=>
  clear H';try clear c1
  try clear p2
  obtain ⟨b0,a0,rfl,rfl,HA,HK1,⟨m1,rfl⟩⟩:=hrel;cases gk with
  | zero=>exact absurd HA.out (by simp [Qm.l0])
  | succ k1=>
   have H:=HA.out;clear HA;simp only [Qm.l0] at H;by_cases c3:a0 < (l0.length:Int)
   ·
    rw [if_pos c3] at H;have o2:decide (a0 < (l0.length:Int))=true:=decide_eq_true c3;clear c3;by_cases c4 : 0≤a0
    ·
     rw [if_pos c4] at H;have p6:decide (0≤a0)=true:=decide_eq_true c4;clear c4;by_cases c5:(((Qa l0 a0).f0) != ((Int.tmod b0 3)==0))=true
     ·
      rw [if_pos c5] at H;have o3:(((Qa l0 a0).f0) != ((Int.tmod b0 3)==0))=true:=c5
      (try (have o4:decide (((Qa l0 a0).f0)=((Int.tmod b0 3)==0))=false:=by simpa using c5))
      (try (have o5:(((Qa l0 a0).f0)==((Int.tmod b0 3)==0))=false:=by simpa using c5))
      (try (have p7:¬ (((Qa l0 a0).f0)=((Int.tmod b0 3)==0)):=by simpa using c5));clear c5;obtain rfl:=Option.some.inj H;have a8 : 0≤(a0:Int):=zzt;have a9:a0 < (l0.length:Int):=zzt;obtain ⟨a5,d8,d9,d6,e1,e2,e3,e4,e5,a2,a3,a4⟩:=Qp b5.out a0 a8 a9;cases d6;have e6:=zzm a4;have e7:=zzm a3;clear a4 a3;replace a8:=eq_true a8;replace a9:=eq_true a9;go_wp2;go_ret;exact ⟨by first|rfl|(simp;done)|(simp [*];done),by repeat (first|exact Drawn0.refl _|apply Drawn0.step)⟩
     ·
      rw [if_neg c5] at H;have o3:(((Qa l0 a0).f0) != ((Int.tmod b0 3)==0))=false:=by simpa using c5
      (try (have o4:decide (((Qa l0 a0).f0)=((Int.tmod b0 3)==0))=true:=by simpa using c5))
      (try (have o5:(((Qa l0 a0).f0)==((Int.tmod b0 3)==0))=true:=by simpa using c5));clear c5;by_cases c6:(((Qa l0 a0).f1) != ((Int.tmod (wrap64 (b0+1)) 3)==0))=true
      ·
       rw [if_pos c6] at H;have o6:(((Qa l0 a0).f1) != ((Int.tmod (wrap64 (b0+1)) 3)==0))=true:=c6
       (try (have o7:decide (((Qa l0 a0).f1)=((Int.tmod (wrap64 (b0+1)) 3)==0))=false:=by simpa using c6))
       (try (have o8:(((Qa l0 a0).f1)==((Int.tmod (wrap64 (b0+1)) 3)==0))=false:=by simpa using c6))
       (try (have p8:¬ (((Qa l0 a0).f1)=((Int.tmod (wrap64 (b0+1)) 3)==0)):=by simpa using c6));clear c6;obtain rfl:=Option.some.inj H;have a8 : 0≤(a0:Int):=zzt;have a9:a0 < (l0.length:Int):=zzt;obtain ⟨a5,d8,d9,d6,e1,e2,e3,e4,e5,a2,a3,a4⟩:=Qp b5.out a0 a8 a9;cases d6;have e6:=zzm a4;have e7:=zzm a3;clear a4 a3;replace a8:=eq_true a8;replace a9:=eq_true a9;have b3 : 0≤(a0:Int):=zzt;have b4:a0 < (l0.length:Int):=zzt;obtain ⟨d5,h3,h4,e8,g1,g2,g3,g4,g5,b6,a6,a7⟩:=Qp b5.out a0 b3 b4;obtain rfl:a5=d5:=(by injection e8);have g6:=zzm a7;have g7:=zzm a6;clear a7 a6;replace b3:=eq_true b3;replace b4:=eq_true b4;have ea_:=Option.some.inj (a2.symm.trans b6);injection ea_ with ea_ en_ ec_;subst ea_;subst ec_;clear en_;go_wp2;go_ret;exact ⟨by first|rfl|(simp;done)|(simp [*];done),by repeat (first|exact Drawn0.refl _|apply Drawn0.step)⟩
      ·
       rw [if_neg c6] at H;have o6:(((Qa l0 a0).f1) != ((Int.tmod (wrap64 (b0+1)) 3)==0))=false:=by simpa using c6
       (try (have o7:decide (((Qa l0 a0).f1)=((Int.tmod (wrap64 (b0+1)) 3)==0))=true:=by simpa using c6))
       (try (have o8:(((Qa l0 a0).f1)==((Int.tmod (wrap64 (b0+1)) 3)==0))=true:=by simpa using c6));clear c6;by_cases c7:((Qa l0 a0).f2)=(wrap64 ((wrap64 (b0+1))+1))
       ·
        rw [if_pos c7] at H;obtain ⟨o9,p0⟩:=zzQ c7;clear c7;by_cases c8:((Qa l0 a0).f3)=(wrap64 ((wrap64 ((wrap64 (b0+1))+1))+1))
        ·
         rw [if_pos c8] at H;obtain ⟨p1,p3⟩:=zzQ c8;clear c8;by_cases c9:((Qa l0 a0).f4)=(wrap64 ((wrap64 ((wrap64 ((wrap64 (b0+1))+1))+1))+1))
         ·
          rw [if_pos c9] at H;obtain ⟨p4,p5⟩:=zzQ c9;clear c9;obtain ⟨k2,o1,H⟩:=zzG H;by_cases l8:k2 < 0
          ·
           rw [if_pos l8] at H;have n8:decide (k2 < 0)=true:=decide_eq_true l8;clear l8;obtain rfl:=Option.some.inj H;have a8 : 0≤(a0:Int):=zzt;have a9:a0 < (l0.length:Int):=zzt;obtain ⟨a5,d8,d9,d6,e1,e2,e3,e4,e5,a2,a3,a4⟩:=Qp b5.out a0 a8 a9;cases d6;have e6:=zzm a4;have e7:=zzm a3;clear a4 a3;replace a8:=eq_true a8;replace a9:=eq_true a9;have b3 : 0≤(a0:Int):=zzt;have b4:a0 < (l0.length:Int):=zzt;obtain ⟨d5,h3,h4,e8,g1,g2,g3,g4,g5,b6,a6,a7⟩:=Qp b5.out a0 b3 b4;obtain rfl:a5=d5:=(by injection e8);have g6:=zzm a7;have g7:=zzm a6;clear a7 a6;replace b3:=eq_true b3;replace b4:=eq_true b4;have ea_:=Option.some.inj (a2.symm.trans b6);injection ea_ with ea_ en_ ec_;subst ea_;subst ec_;clear en_;have b9 : 0≤(a0:Int):=zzt;have c2:a0 < (l0.length:Int):=zzt;obtain ⟨e0,j8,j9,h1,h5,h6,h7,h8,h9,d0,b1,b2⟩:=Qp b5.out a0 b9 c2;obtain rfl:a5=e0:=(by injection h1);have j3:=zzm b2;have j4:=zzm b1;clear b2 b1;replace b9:=eq_true b9;replace c2:=eq_true c2;have ea_:=Option.some.inj (a2.symm.trans d0);injection ea_ with ea_ en_ ec_;subst ea_;subst ec_;clear en_;have d1 : 0≤(a0:Int):=zzt;have d2:a0 < (l0.length:Int):=zzt;obtain ⟨h2,l5,l6,j5,k3,k4,k5,k6,k7,d7,b7,b8⟩:=Qp b5.out a0 d1 d2;obtain rfl:a5=h2:=(by injection j5);have k8:=zzm b8;have k9:=zzm b7;clear b8 b7;replace d1:=eq_true d1;replace d2:=eq_true d2;have ea_:=Option.some.inj (a2.symm.trans d7);injection ea_ with ea_ en_ ec_;subst ea_;subst ec_;clear en_;have e9 : 0≤(a0:Int):=zzt;have g0:a0 < (l0.length:Int):=zzt;obtain ⟨k0,m8,m9,l7,l9,m0,m2,m3,m4,g8,d3,d4⟩:=Qp b5.out a0 e9 g0;obtain rfl:a5=k0:=(by injection l7);have m5:=zzm d4;have m6:=zzm d3;clear d4 d3;replace e9:=eq_true e9;replace g0:=eq_true g0;have ea_:=Option.some.inj (a2.symm.trans g8);injection ea_ with ea_ en_ ec_;subst ea_;subst ec_;clear en_;have j6 : 0≤(a0:Int):=zzt;have j7:a0 < (l0.length:Int):=zzt;obtain ⟨m7,n6,n7,n0,n1,n2,n3,n4,n5,l2,g9,h0⟩:=Qp b5.out a0 j6 j7;obtain rfl:a5=m7:=(by injection n0);have l3:=zzm h0;have l4:=zzm g9;clear h0 g9;replace j6:=eq_true j6;replace j7:=eq_true j7;have ea_:=Option.some.inj (a2.symm.trans l2);injection ea_ with ea_ en_ ec_;subst ea_;subst ec_;clear en_;go_wp2_with (first|((with_reducible refine gate_callee (f:=24) rfl ?_);refine goesL_ (some 67) rfl rfl Try.func24 (by kernel_rfl) rfl #[.slice d8 ((Qa l0 a0).f5).length d9,.int .i64 (wrap64 ((wrap64 ((wrap64 ((wrap64 ((wrap64 (b0+1))+1))+1))+1))+1))] rfl zzM2 ?_;(with_reducible refine (Qr.calls k1 _ _ ((Qa l0 a0).f5) (wrap64 ((wrap64 ((wrap64 ((wrap64 ((wrap64 (b0+1))+1))+1))+1))+1)) k2 _ ?side1 ?side2 o1.out).mono ?_);(case side1=>repeat (first|exact l3.out|(with_reducible refine Kd.C_alloc ?_ _)|(with_reducible refine Kd.C_drewN ?_ _)|(with_reducible refine Kd.C_drew ?_)));(case side2=>exact l4.out);rintro e w' ⟨rfl,⟨nd,rfl⟩⟩;refine ⟨_,rfl,?_⟩));go_ret;exact ⟨by first|rfl|(simp;done)|(simp [*];done),by repeat (first|exact Drawn0.refl _|apply Drawn0.step)⟩
          ·
           rw [if_neg l8] at H;have n8:decide (k2 < 0)=false:=decide_eq_false l8;clear l8;have H':=zzm H;clear H;have a8 : 0≤(a0:Int):=zzt;have a9:a0 < (l0.length:Int):=zzt;obtain ⟨a5,d8,d9,d6,e1,e2,e3,e4,e5,a2,a3,a4⟩:=Qp b5.out a0 a8 a9;cases d6;have e6:=zzm a4;have e7:=zzm a3;clear a4 a3;replace a8:=eq_true a8;replace a9:=eq_true a9;have b3 : 0≤(a0:Int):=zzt;have b4:a0 < (l0.length:Int):=zzt;obtain ⟨d5,h3,h4,e8,g1,g2,g3,g4,g5,b6,a6,a7⟩:=Qp b5.out a0 b3 b4;obtain rfl:a5=d5:=(by injection e8);have g6:=zzm a7;have g7:=zzm a6;clear a7 a6;replace b3:=eq_true b3;replace b4:=eq_true b4;have ea_:=Option.some.inj (a2.symm.trans b6);injection ea_ with ea_ en_ ec_;subst ea_;subst ec_;clear en_;have b9 : 0≤(a0:Int):=zzt;have c2:a0 < (l0.length:Int):=zzt;obtain ⟨e0,j8,j9,h1,h5,h6,h7,h8,h9,d0,b1,b2⟩:=Qp b5.out a0 b9 c2;obtain rfl:a5=e0:=(by injection h1);have j3:=zzm b2;have j4:=zzm b1;clear b2 b1;replace b9:=eq_true b9;replace c2:=eq_true c2;have ea_:=Option.some.inj (a2.symm.trans d0);injection ea_ with ea_ en_ ec_;subst ea_;subst ec_;clear en_;have d1 : 0≤(a0:Int):=zzt;have d2:a0 < (l0.length:Int):=zzt;obtain ⟨h2,l5,l6,j5,k3,k4,k5,k6,k7,d7,b7,b8⟩:=Qp b5.out a0 d1 d2;obtain rfl:a5=h2:=(by injection j5);have k8:=zzm b8;have k9:=zzm b7;clear b8 b7;replace d1:=eq_true d1;replace d2:=eq_true d2;have ea_:=Option.some.inj (a2.symm.trans d7);injection ea_ with ea_ en_ ec_;subst ea_;subst ec_;clear en_;have e9 : 0≤(a0:Int):=zzt;have g0:a0 < (l0.length:Int):=zzt;obtain ⟨k0,m8,m9,l7,l9,m0,m2,m3,m4,g8,d3,d4⟩:=Qp b5.out a0 e9 g0;obtain rfl:a5=k0:=(by injection l7);have m5:=zzm d4;have m6:=zzm d3;clear d4 d3;replace e9:=eq_true e9;replace g0:=eq_true g0;have ea_:=Option.some.inj (a2.symm.trans g8);injection ea_ with ea_ en_ ec_;subst ea_;subst ec_;clear en_;have j6 : 0≤(a0:Int):=zzt;have j7:a0 < (l0.length:Int):=zzt;obtain ⟨m7,n6,n7,n0,n1,n2,n3,n4,n5,l2,g9,h0⟩:=Qp b5.out a0 j6 j7;obtain rfl:a5=m7:=(by injection n0);have l3:=zzm h0;have l4:=zzm g9;clear h0 g9;replace j6:=eq_true j6;replace j7:=eq_true j7;have ea_:=Option.some.inj (a2.symm.trans l2);injection ea_ with ea_ en_ ec_;subst ea_;subst ec_;clear en_;go_wp2_with (first|((with_reducible refine gate_callee (f:=24) rfl ?_);refine goesL_ (some 67) rfl rfl Try.func24 (by kernel_rfl) rfl #[.slice d8 ((Qa l0 a0).f5).length d9,.int .i64 (wrap64 ((wrap64 ((wrap64 ((wrap64 ((wrap64 (b0+1))+1))+1))+1))+1))] rfl zzM2 ?_;(with_reducible refine (Qr.calls k1 _ _ ((Qa l0 a0).f5) (wrap64 ((wrap64 ((wrap64 ((wrap64 ((wrap64 (b0+1))+1))+1))+1))+1)) k2 _ ?side1 ?side2 o1.out).mono ?_);(case side1=>repeat (first|exact l3.out|(with_reducible refine Kd.C_alloc ?_ _)|(with_reducible refine Kd.C_drewN ?_ _)|(with_reducible refine Kd.C_drew ?_)));(case side2=>exact l4.out);rintro e w' ⟨rfl,⟨nd,rfl⟩⟩;refine ⟨_,rfl,?_⟩));go_roundg k1
           case measure=>have:=HK1.out;omega
           case rel=>exact ⟨(k2),(wrap64 (a0+1)),(by first|rfl|(simp;done)|(simp [*];done)),(by first|rfl|(simp;done)|(simp [*];done)),H',⟨by have:=HK1.out;omega⟩,by repeat (first|exact Drawn0.refl _|apply Drawn0.step)⟩
         ·
          rw [if_neg c9] at H;obtain ⟨p4,p5⟩:=zzY c9;obtain rfl:=Option.some.inj H;have a8 : 0≤(a0:Int):=zzt;have a9:a0 < (l0.length:Int):=zzt;obtain ⟨a5,d8,d9,d6,e1,e2,e3,e4,e5,a2,a3,a4⟩:=Qp b5.out a0 a8 a9;cases d6;have e6:=zzm a4;have e7:=zzm a3;clear a4 a3;replace a8:=eq_true a8;replace a9:=eq_true a9;have b3 : 0≤(a0:Int):=zzt;have b4:a0 < (l0.length:Int):=zzt;obtain ⟨d5,h3,h4,e8,g1,g2,g3,g4,g5,b6,a6,a7⟩:=Qp b5.out a0 b3 b4;obtain rfl:a5=d5:=(by injection e8);have g6:=zzm a7;have g7:=zzm a6;clear a7 a6;replace b3:=eq_true b3;replace b4:=eq_true b4;have ea_:=Option.some.inj (a2.symm.trans b6);injection ea_ with ea_ en_ ec_;subst ea_;subst ec_;clear en_;have b9 : 0≤(a0:Int):=zzt;have c2:a0 < (l0.length:Int):=zzt;obtain ⟨e0,j8,j9,h1,h5,h6,h7,h8,h9,d0,b1,b2⟩:=Qp b5.out a0 b9 c2;obtain rfl:a5=e0:=(by injection h1);have j3:=zzm b2;have j4:=zzm b1;clear b2 b1;replace b9:=eq_true b9;replace c2:=eq_true c2;have ea_:=Option.some.inj (a2.symm.trans d0);injection ea_ with ea_ en_ ec_;subst ea_;subst ec_;clear en_;have d1 : 0≤(a0:Int):=zzt;have d2:a0 < (l0.length:Int):=zzt;obtain ⟨h2,l5,l6,j5,k3,k4,k5,k6,k7,d7,b7,b8⟩:=Qp b5.out a0 d1 d2;obtain rfl:a5=h2:=(by injection j5);have k8:=zzm b8;have k9:=zzm b7;clear b8 b7;replace d1:=eq_true d1;replace d2:=eq_true d2;have ea_:=Option.some.inj (a2.symm.trans d7);injection ea_ with ea_ en_ ec_;subst ea_;subst ec_;clear en_;have e9 : 0≤(a0:Int):=zzt;have g0:a0 < (l0.length:Int):=zzt;obtain ⟨k0,m8,m9,l7,l9,m0,m2,m3,m4,g8,d3,d4⟩:=Qp b5.out a0 e9 g0;obtain rfl:a5=k0:=(by injection l7);have m5:=zzm d4;have m6:=zzm d3;clear d4 d3;replace e9:=eq_true e9;replace g0:=eq_true g0;have ea_:=Option.some.inj (a2.symm.trans g8);injection ea_ with ea_ en_ ec_;subst ea_;subst ec_;clear en_;go_wp2;go_ret;exact ⟨by first|rfl|(simp;done)|(simp [*];done),by repeat (first|exact Drawn0.refl _|apply Drawn0.step)⟩
        ·
         rw [if_neg c8] at H;obtain ⟨p1,p3⟩:=zzY c8;obtain rfl:=Option.some.inj H;have a8 : 0≤(a0:Int):=zzt;have a9:a0 < (l0.length:Int):=zzt;obtain ⟨a5,d8,d9,d6,e1,e2,e3,e4,e5,a2,a3,a4⟩:=Qp b5.out a0 a8 a9;cases d6;have e6:=zzm a4;have e7:=zzm a3;clear a4 a3;replace a8:=eq_true a8;replace a9:=eq_true a9;have b3 : 0≤(a0:Int):=zzt;have b4:a0 < (l0.length:Int):=zzt;obtain ⟨d5,h3,h4,e8,g1,g2,g3,g4,g5,b6,a6,a7⟩:=Qp b5.out a0 b3 b4;obtain rfl:a5=d5:=(by injection e8);have g6:=zzm a7;have g7:=zzm a6;clear a7 a6;replace b3:=eq_true b3;replace b4:=eq_true b4;have ea_:=Option.some.inj (a2.symm.trans b6);injection ea_ with ea_ en_ ec_;subst ea_;subst ec_;clear en_;have b9 : 0≤(a0:Int):=zzt;have c2:a0 < (l0.length:Int):=zzt;obtain ⟨e0,j8,j9,h1,h5,h6,h7,h8,h9,d0,b1,b2⟩:=Qp b5.out a0 b9 c2;obtain rfl:a5=e0:=(by injection h1);have j3:=zzm b2;have j4:=zzm b1;clear b2 b1;replace b9:=eq_true b9;replace c2:=eq_true c2;have ea_:=Option.some.inj (a2.symm.trans d0);injection ea_ with ea_ en_ ec_;subst ea_;subst ec_;clear en_;have d1 : 0≤(a0:Int):=zzt;have d2:a0 < (l0.length:Int):=zzt;obtain ⟨h2,l5,l6,j5,k3,k4,k5,k6,k7,d7,b7,b8⟩:=Qp b5.out a0 d1 d2;obtain rfl:a5=h2:=(by injection j5);have k8:=zzm b8;have k9:=zzm b7;clear b8 b7;replace d1:=eq_true d1;replace d2:=eq_true d2;have ea_:=Option.some.inj (a2.symm.trans d7);injection ea_ with ea_ en_ ec_;subst ea_;subst ec_;clear en_;go_wp2;go_ret;exact ⟨by first|rfl|(simp;done)|(simp [*];done),by repeat (first|exact Drawn0.refl _|apply Drawn0.step)⟩
       ·
        rw [if_neg c7] at H;obtain ⟨o9,p0⟩:=zzY c7;obtain rfl:=Option.some.inj H;have a8 : 0≤(a0:Int):=zzt;have a9:a0 < (l0.length:Int):=zzt;obtain ⟨a5,d8,d9,d6,e1,e2,e3,e4,e5,a2,a3,a4⟩:=Qp b5.out a0 a8 a9;cases d6;have e6:=zzm a4;have e7:=zzm a3;clear a4 a3;replace a8:=eq_true a8;replace a9:=eq_true a9;have b3 : 0≤(a0:Int):=zzt;have b4:a0 < (l0.length:Int):=zzt;obtain ⟨d5,h3,h4,e8,g1,g2,g3,g4,g5,b6,a6,a7⟩:=Qp b5.out a0 b3 b4;obtain rfl:a5=d5:=(by injection e8);have g6:=zzm a7;have g7:=zzm a6;clear a7 a6;replace b3:=eq_true b3;replace b4:=eq_true b4;have ea_:=Option.some.inj (a2.symm.trans b6);injection ea_ with ea_ en_ ec_;subst ea_;subst ec_;clear en_;have b9 : 0≤(a0:Int):=zzt;have c2:a0 < (l0.length:Int):=zzt;obtain ⟨e0,j8,j9,h1,h5,h6,h7,h8,h9,d0,b1,b2⟩:=Qp b5.out a0 b9 c2;obtain rfl:a5=e0:=(by injection h1);have j3:=zzm b2;have j4:=zzm b1;clear b2 b1;replace b9:=eq_true b9;replace c2:=eq_true c2;have ea_:=Option.some.inj (a2.symm.trans d0);injection ea_ with ea_ en_ ec_;subst ea_;subst ec_;clear en_;go_wp2;go_ret;exact ⟨by first|rfl|(simp;done)|(simp [*];done),by repeat (first|exact Drawn0.refl _|apply Drawn0.step)⟩
    ·
     rw [if_neg c4] at H;exact absurd H (by simp)
   ·
    rw [if_neg c3] at H;have o2:decide (a0 < (l0.length:Int))=false:=decide_eq_false c3;clear c3;obtain rfl:=Option.some.inj H;go_wp2;go_ret;exact ⟨by first|rfl|(simp;done)|(simp [*];done),by repeat (first|exact Drawn0.refl _|apply Drawn0.step)⟩
end Go.Proofs.Ytnjalgheihiagaa.T
namespace Go.Proofs.Ytnjalgheihiagaa.Q
open Go.RowKit Go.Proofs.YtnjalgheihiagaaW.PrintWords
def Opens {α:Type} (P:Program) (d:Kd α) (t:TypeId) (WF : α→Prop):Prop:=
 ∀ (H:Type) (enc:TypeId×Value→H) (w:World) (base:Nat) (spare:Nat→Bool) (held:Bool) (fuel:Nat) (cs:List Value) (x:DataW H×List MemPlace),DataW.trod enc P w base spare held fuel t cs=some x→∃ v : α,d.K w v cs∧WF v
theorem Opens.int {P:Program} {t:TypeId} {k:IntKind} (ht:P.underlying t=some (.int k)):Opens P (Kd.int k) t (fun n=>(Lit.int k n).wf=true):=by
 intro H enc w base spare held fuel cs x h
 obtain ⟨n,rfl,_,hw⟩:=DataW.trod_int ht h
 exact ⟨n,rfl,hw⟩
theorem Opens.bool {P:Program} {t:TypeId} (ht:P.underlying t=some .bool):Opens P Kd.bool t (fun _=>True):=by
 intro H enc w base spare held fuel cs x h
 obtain ⟨n,rfl,_⟩:=DataW.trod_bool ht h
 exact ⟨n,rfl,trivial⟩
theorem Opens.iso {α β:Type} {P:Program} {t:TypeId} {d:Kd α} {WF : α→Prop} {f : β→α} (h:Opens P d t WF) (g : α→β) (hg:∀ a,f (g a)=a):Opens P (Kd.iso d f) t (fun b=>WF (f b)):=by
 intro H enc w base spare held fuel cs x hx
 obtain ⟨v,hv,hw⟩:=h H enc w base spare held fuel cs x hx
 exact ⟨g v,by show d.K w (f (g v)) cs;rw [hg];exact hv,by show WF (f (g v));rw [hg];exact hw⟩
theorem list_of {α:Type} {Q:Nat→α→Prop} : ∀ (n:Nat),(∀ i,i < n→∃ v,Q i v)→∃ l:List α,l.length=n∧∀ j p,l[j]? = some p→Q j p
 | 0,_=>⟨[],rfl,fun j p h=>by simp at h⟩
 | n+1,h=>by
  obtain ⟨l,hl,hq⟩:=list_of n (fun i hi=>h i (by omega))
  obtain ⟨v,hv⟩:=h n (by omega)
  refine ⟨l ++ [v],by simp [hl],fun j p hj=>?_⟩
  rcases Nat.lt_or_ge j l.length with h1|h1
  ·rw [List.getElem?_append_left h1] at hj
   exact hq j p hj
  ·rw [List.getElem?_append_right h1] at hj
   have h2:j - l.length=0:=by
    have:=(List.getElem?_eq_some_iff.1 hj).1
    simp at this
    omega
   rw [h2] at hj
   simp at hj
   subst hj
   have:j=n:=by omega
   subst this
   exact hv
theorem cells_get {w:World} {base:Nat} {a:Addr} {n:Nat} {cs:List Value} (h:w.cells? base a n=some cs):cs.length=n∧∀ (i:Nat) (u:Value),cs[i]? = some u→w.cell? (a.add i)=some u:=by
 unfold World.cells? at h
 split at h
 ·have hl:cs.length=n:=by simpa using mapM_some_length h
  refine ⟨hl,fun i u hu=>?_⟩
  have hi:i < cs.length:=(List.getElem?_eq_some_iff.1 hu).1
  have:=mapM_some_get h i i (by rw [List.getElem?_range (by omega)])
  rw [this,hu]
 ·cases h
theorem add_add' (a:Addr) (x y:Nat):(a.add x).add y=a.add (x+y):=by
 by_cases hx:x=0 <;> by_cases hy:y=0 <;> simp [Addr.add,hx,hy,Nat.add_assoc]
theorem Opens.slice {α:Type} {P:Program} {t e:TypeId} {d:Kd α} {WF : α→Prop} (ht:P.underlying t=some (.slice e)) (h:Opens P d e WF) (hs:P.cellsOf e=d.sz):Opens P (Kd.slice e d) t (fun l=>l.length≤maxLen∧∀ v∈l,WF v):=by
 intro H enc w base spare held fuel cs x hx
 rcases Go.Deep.open_slice ht hx with ⟨rfl,_⟩|⟨a,len,cap,m,n,D,Pl,rfl,hb,hl,hm,hmm,_,hi⟩
 ·exact ⟨[],⟨none,0,rfl,Nat.le_refl _,rfl,by simp,fun h=>by simp at h⟩,by simp,fun v hv=>by simp at hv⟩
 ·have hlm:len≤m:=by rw [hmm];split <;> omega
  obtain ⟨l,hll,hq⟩:=list_of (Q:=fun i v=>∃ c,w.cells? base (a.add (i * P.cellsOf e)) (P.cellsOf e)=some c∧d.K w v c∧WF v) len (fun i hlt=>by
   obtain ⟨c,hc,hd⟩:=hi i (by omega)
   obtain ⟨v,hv,hw⟩:=h H enc w base spare held n c _ hd
   exact ⟨v,c,hc,hv,hw⟩)
  subst hll
  refine ⟨l,⟨some a,cap,rfl,hl,rfl,by unfold maxLen at hm;omega,fun _=>⟨a,rfl,fun j p hj=>?_⟩⟩,Nat.le_trans hl hm,fun v hv=>?_⟩
  ·obtain ⟨c,hc,hk,_⟩:=hq j p hj
   obtain ⟨h1,h2⟩:=cells_get hc
   refine ⟨c,by rw [h1,hs],hk,fun i u hu=>?_⟩
   rw [← hs,← add_add']
   exact h2 i u hu
  ·obtain ⟨j,hj,rfl⟩:=List.getElem_of_mem hv
   obtain ⟨_,_,_,hw⟩:=hq j _ (List.getElem?_eq_getElem hj)
   exact hw
def OpensFs {α:Type} (P:Program) (o:Nat) (fs:List Field) (d:Kd α) (WF : α→Prop):Prop:=
 ∀ (H:Type) (enc:TypeId×Value→H) (w:World) (base:Nat) (spare:Nat→Bool) (held:Bool) (fuel:Nat) (cs:List Value),(∀ f∈fs,∃ x:DataW H×List MemPlace,DataW.trod enc P w base spare held fuel f.type ((cs.drop f.offset).take (P.cellsOf f.type))=some x)→cs.length=o+d.sz→∃ v : α,d.K w v (cs.drop o)∧WF v
theorem OpensFs.one {α:Type} {P:Program} {o:Nat} {f:Field} {d:Kd α} {WF : α→Prop} (ho:f.offset=o) (hs:P.cellsOf f.type=d.sz) (h:Opens P d f.type WF):OpensFs P o [f] d WF:=by
 intro H enc w base spare held fuel cs hx hl
 obtain ⟨x,hx⟩:=hx f (by simp)
 rw [ho,hs,List.take_of_length_le (by rw [length_drop];omega)] at hx
 exact h H enc w base spare held fuel _ x hx
theorem OpensFs.cons {α β:Type} {P:Program} {o:Nat} {f:Field} {fs:List Field} {d:Kd α} {d' : Kd β} {WF : α→Prop} {WF' : β→Prop} (ho:f.offset=o) (hs:P.cellsOf f.type=d.sz) (h:Opens P d f.type WF) (h' : OpensFs P (o+d.sz) fs d' WF'):OpensFs P o (f::fs) (Kd.pair d d') (fun p=>WF p.1∧WF' p.2):=by
 intro H enc w base spare held fuel cs hx hl
 obtain ⟨x,hx0⟩:=hx f (by simp)
 rw [ho,hs] at hx0
 obtain ⟨v,hv,hw⟩:=h H enc w base spare held fuel _ x hx0
 have hl' : cs.length=o+d.sz+d'.sz:=by rw [hl];exact (Nat.add_assoc _ _ _).symm
 obtain ⟨v',hv',hw'⟩:=h' H enc w base spare held fuel cs (fun f' hf'=>hx f' (List.mem_cons_of_mem _ hf')) hl'
 refine ⟨(v,v'),⟨(cs.drop o).take d.sz,cs.drop (o+d.sz),?_,hv,hv'⟩,hw,hw'⟩
 rw [← List.drop_drop,List.take_append_drop]
theorem Opens.struct {α:Type} {P:Program} {t:TypeId} {fs:Array Field} {d:Kd α} {WF : α→Prop} (ht:P.underlying t=some (.struct fs)) (hs:P.cellsOf t=d.sz) (h:OpensFs P 0 fs.toList d WF):Opens P d t WF:=by
 intro H enc w base spare held fuel cs x hx
 obtain ⟨xs,n,_,_,hl,hxs,hf⟩:=DataW.trod_struct ht hx
 refine h H enc w base spare held n cs (fun f hfm=>?_) (by rw [hl,hs,Nat.zero_add])
 obtain ⟨i,hi,rfl⟩:=List.getElem_of_mem hfm
 have hi' : i < fs.size:=by simpa using hi
 have:=hf i fs[i] (Array.getElem?_eq_getElem hi')
 rw [List.getElem?_eq_getElem (by omega)] at this
 exact ⟨_,by simpa using this⟩
end Go.Proofs.Ytnjalgheihiagaa.Q
namespace Go.Proofs.Ytnjalgheihiagaa.T
open Go.RowKit Go.Proofs.YtnjalgheihiagaaW.PrintWords
set_option linter.unusedVariables false
def WF70 (x:S70):Prop:=(Lit.int .i64 x.f0).wf=true∧(Lit.int .i64 x.f1).wf=true∧True∧(x.f3.length≤maxLen∧∀ v∈x.f3,(Lit.int .i64 v).wf=true)∧True∧(x.f5.length≤maxLen∧∀ v∈x.f5,(Lit.int .i64 v).wf=true)
theorem opens70:Q.Opens Try.prog k70 70 WF70:=
 Q.Opens.iso (Q.Opens.struct Try.underlying70 (by kernel_rfl) (Q.OpensFs.cons rfl (by kernel_rfl) (Q.Opens.int Try.underlying3) (Q.OpensFs.cons rfl (by kernel_rfl) (Q.Opens.int Try.underlying3) (Q.OpensFs.cons rfl (by kernel_rfl) (Q.Opens.bool Try.underlying4) (Q.OpensFs.cons rfl (by kernel_rfl) (Q.Opens.slice Try.underlying45 (Q.Opens.int Try.underlying3) (by kernel_rfl)) (Q.OpensFs.cons rfl (by kernel_rfl) (Q.Opens.bool Try.underlying4) (Q.OpensFs.one rfl (by kernel_rfl) (Q.Opens.slice Try.underlying45 (Q.Opens.int Try.underlying3) (by kernel_rfl))))))))) (fun p=>⟨p.1,p.2.1,p.2.2.1,p.2.2.2.1,p.2.2.2.2.1,p.2.2.2.2.2⟩) (fun _=>rfl)
def WF34 (x:S34):Prop:=True∧True∧(Lit.int .i64 x.f2).wf=true∧(Lit.int .i64 x.f3).wf=true∧(Lit.int .i64 x.f4).wf=true∧(x.f5.length≤maxLen∧∀ v∈x.f5,WF70 v)
theorem opens34:Q.Opens Try.prog k34 34 WF34:=
 Q.Opens.iso (Q.Opens.struct Try.underlying34 (by kernel_rfl) (Q.OpensFs.cons rfl (by kernel_rfl) (Q.Opens.bool Try.underlying4) (Q.OpensFs.cons rfl (by kernel_rfl) (Q.Opens.bool Try.underlying4) (Q.OpensFs.cons rfl (by kernel_rfl) (Q.Opens.int Try.underlying3) (Q.OpensFs.cons rfl (by kernel_rfl) (Q.Opens.int Try.underlying3) (Q.OpensFs.cons rfl (by kernel_rfl) (Q.Opens.int Try.underlying3) (Q.OpensFs.one rfl (by kernel_rfl) (Q.Opens.slice Try.underlying32 opens70 (by kernel_rfl))))))))) (fun p=>⟨p.1,p.2.1,p.2.2.1,p.2.2.2.1,p.2.2.2.2.1,p.2.2.2.2.2⟩) (fun _=>rfl)
end Go.Proofs.Ytnjalgheihiagaa.T
namespace Go.Proofs.Ytnjalgheihiagaa.Q
open Go.RowKit Go.Proofs.YtnjalgheihiagaaW.PrintWords
set_option linter.unusedVariables false
set_option linter.unusedSimpArgs false
theorem ev_succ {α:Type} {g:Nat→Option α} {r : α} (h:Ev (fun k=>g (k+1)) r):Ev g r:=Ev.step (f:=fun k=>g (k+1)) (fun _=>rfl) h
theorem ev_of_all {α:Type} {g:Nat→Option α} {r : α} (h:∀ k,g k=some r):Ev g r:=⟨0,fun k _=>h k⟩
theorem ev_some {α:Type} (r : α):Ev (fun _=>some r) r:=ev_of_all fun _=>rfl
def Evs {α:Type} (g:Nat→Option α) (Q : α→Prop):Prop:=∃ r,Ev g r∧Q r
theorem Evs.of {α:Type} {g:Nat→Option α} {Q : α→Prop} {r : α} (h:Ev g r) (hq:Q r):Evs g Q:=⟨r,h,hq⟩
theorem Evs.done {α:Type} {Q : α→Prop} {r : α} (hq:Q r):Evs (fun _=>some r) Q:=⟨r,ev_some r,hq⟩
theorem Evs.mono {α:Type} {g:Nat→Option α} {Q Q' : α→Prop} (h:Evs g Q) (hq:∀ r,Q r→Q' r):Evs g Q':=by
 obtain ⟨r,h1,h2⟩:=h
 exact ⟨r,h1,hq r h2⟩
theorem Evs.succ {α:Type} {g:Nat→Option α} {Q : α→Prop} (h:Evs (fun k=>g (k+1)) Q):Evs g Q:=by
 obtain ⟨r,h1,h2⟩:=h
 exact ⟨r,ev_succ h1,h2⟩
theorem Evs.bind {α β:Type} {g:Nat→Option α} {f:Nat→α→Option β} {Q : α→Prop} {R : β→Prop} (h:Evs g Q) (k:∀ a,Q a→Evs (fun n=>f n a) R):Evs (fun n=>(g n).bind (f n)) R:=by
 obtain ⟨a,h1,h2⟩:=h
 obtain ⟨r,k1,k2⟩:=k a h2
 exact ⟨r,Ev.bind h1 k1,k2⟩
theorem bsome {α β:Type} (a : α) (f : α→Option β):(some a).bind f=f a:=Eq.trans (Option.bind_some a f) (Eq.refl _)
end Go.Proofs.Ytnjalgheihiagaa.Q
namespace Go.Proofs.Ytnjalgheihiagaa.Q
open Go.RowKit Go.Proofs.Ytnjalgheihiagaa.T Go.Proofs.YtnjalgheihiagaaW.PrintWords Go.Proofs.YtnjalgheihiagaaW.PrintLast
set_option linter.unusedVariables false
set_option linter.unusedSimpArgs false
theorem wrap_id {x:Int} (h0 : -9223372036854775808≤x) (h1:x < 9223372036854775808):wrap64 x=x:=by unfold wrap64;omega
theorem Ry (a b c:Int):Qt.f a b c=some (decide (b≤a∧a≤c)):=by
 unfold Qt.f
 by_cases h:a ≥ b
 ·rw [if_pos h]
  have:(b≤a∧a≤c)↔a≤c:=⟨fun h=>h.2,fun h'=>⟨h,h'⟩⟩
  simp [this]
 ·rw [if_neg h]
  have:¬ (b≤a∧a≤c):=fun h'=>h h'.1
  simp [this]
theorem spec_l6In_eq (a b c:Int):Qx.f a b c=some (decide (b≤a∧a≤c)):=by
 unfold Qx.f
 by_cases h:a ≥ b
 ·rw [if_pos h]
  have:(b≤a∧a≤c)↔a≤c:=⟨fun h=>h.2,fun h'=>⟨h,h'⟩⟩
  simp [this]
 ·rw [if_neg h]
  have:¬ (b≤a∧a≤c):=fun h'=>h h'.1
  simp [this]
theorem rd_nat (l:List Int) (j:Nat) (h:j < l.length):rd l (j:Int)=l[j]:=by
 unfold rd
 rw [Int.toNat_natCast,List.getD_eq_getElem?_getD,List.getElem?_eq_getElem h]
 rfl
theorem drop_int {l:List Int} {i:Nat} (h:i < l.length):l.drop i=rd l i::l.drop (i+1):=by
 rw [List.drop_eq_getElem_cons h,rd_nat l i h]
def ab (l:List Int):Bool:=decide (∀ x∈l,0≤x∧x≤255)
theorem ab_cons (x:Int) (l:List Int):ab (x::l)=(decide (0≤x∧x≤255)&&ab l):=by
 rw [Bool.eq_iff_iff]
 simp [ab,List.forall_mem_cons]
theorem ab_nil:ab []=true:=by simp [ab]
theorem isByte_eq (a:Int):Ro.f a=some (decide (0≤a∧a≤255)):=by
 unfold Ro.f
 by_cases h:a ≥ 0
 ·rw [if_pos h]
  have:(0≤a∧a≤255)↔a≤255:=⟨fun h=>h.2,fun h'=>⟨h,h'⟩⟩
  simp [this]
 ·rw [if_neg h]
  have:¬ (0≤a∧a≤255):=fun h'=>h h'.1
  simp [this]
theorem baseValid_eq (a b:Int):Rg.f a b=some (decide ((0≤a∧a≤99999)∧(0≤b∧b≤99999))):=by
 unfold Rg.f
 rw [Ry,Ry]
 by_cases h : 0≤a∧a≤99999 <;> simp [h]
theorem idValid_eqB (a:Int):Rj.f a=some (decide (0≤a∧a≤254)):=by
 unfold Rj.f
 rw [Ry]
 rfl
theorem implAll_loop (l:List Int) (hl:l.length≤1000000000000000):∀ (d i:Nat),l.length - i=d→i≤l.length→Ev (fun k=>Qn.l0 k l (l.length:Int) (i:Int)) (ab (l.drop i)):=by
 intro d
 induction d with
 | zero=>
  intro i hd hi
  rw [show l.drop i = [] from List.drop_eq_nil_of_le (by omega),ab_nil]
  refine ev_succ ?_
  simp only [Qn.l0,if_neg (show ¬ (i:Int) < (l.length:Int) by omega)]
  exact ev_some _
 | succ d ih=>
  intro i hd hi
  have e1:wrap64 ((i:Int)+1)=((i+1:Nat):Int):=by rw [wrap_id (by omega) (by omega)];omega
  rw [drop_int (show i < l.length by omega),ab_cons]
  refine ev_succ ?_
  simp only [Qn.l0,if_pos (show (i:Int) < (l.length:Int) by omega),if_pos (show (0:Int)≤i by omega),isByte_eq,bsome,decide_eq_true_eq,e1]
  by_cases h : 0≤rd l (i:Int)∧rd l (i:Int)≤255
  ·simp only [if_pos h,decide_eq_true h,Bool.true_and]
   exact ih (i+1) (by omega) (by omega)
  ·simp only [if_neg h,decide_eq_false h,Bool.false_and]
   exact ev_some _
theorem implAll (l:List Int) (hl:l.length≤1000000000000000):Ev (fun k=>Qn.f k l) (ab l):=by
 unfold Qn.f
 have:=implAll_loop l hl l.length 0 (by omega) (by omega)
 simpa using this
theorem specAll_loop (l:List Int) (hl:l.length≤1000000000000000):∀ (d i:Nat),l.length - i=d→i≤l.length→Ev (fun k=>Q8.l0 k l (i:Int)) (ab (l.drop i)):=by
 intro d
 induction d with
 | zero=>
  intro i hd hi
  rw [show l.drop i = [] from List.drop_eq_nil_of_le (by omega),ab_nil]
  refine ev_succ ?_
  simp only [Q8.l0,if_neg (show ¬ (i:Int) < (l.length:Int) by omega)]
  exact ev_some _
 | succ d ih=>
  intro i hd hi
  have e1:wrap64 ((i:Int)+1)=((i+1:Nat):Int):=by rw [wrap_id (by omega) (by omega)];omega
  rw [drop_int (show i < l.length by omega),ab_cons]
  refine ev_succ ?_
  simp only [Q8.l0,if_pos (show (i:Int) < (l.length:Int) by omega),if_pos (show (0:Int)≤i by omega),spec_l6In_eq,bsome,decide_eq_true_eq,e1]
  by_cases h : 0≤rd l (i:Int)∧rd l (i:Int)≤255
  ·simp only [if_pos h,decide_eq_true h,Bool.true_and]
   exact ih (i+1) (by omega) (by omega)
  ·simp only [if_neg h,decide_eq_false h,Bool.false_and]
   exact ev_some _
theorem specAll (l:List Int) (hl:l.length≤1000000000000000):Ev (fun k=>Q8.f k l) (ab l):=by
 unfold Q8.f
 have:=specAll_loop l hl l.length 0 (by omega) (by omega)
 simpa using this
def pv (has:Bool) (l:List Int):Bool:=if has=true then decide (l.length≤12)&&ab l else decide (l.length=0)
theorem implPart (has:Bool) (l:List Int) (hl:l.length≤1000000000000000):Ev (fun k=>Q9.f k has l) (pv has l):=by
 unfold Q9.f pv
 cases has with
 | true=>
  simp only [if_true]
  by_cases h:(l.length:Int)≤12
  ·simp only [if_pos h,decide_eq_true (show l.length≤12 by omega),Bool.true_and]
   exact Ev.bind (implAll l hl) (ev_some _)
  ·simp only [if_neg h,decide_eq_false (show ¬ l.length≤12 by omega),Bool.false_and]
   exact ev_some _
 | false=>
  simp only [Bool.false_eq_true,if_false]
  rw [show ((l.length:Int)==0)=decide (l.length=0) by rw [Bool.eq_iff_iff];simp]
  exact ev_some _
theorem specPart (has:Bool) (l:List Int) (hl:l.length≤1000000000000000):Ev (fun k=>Rk.f k has l) (pv has l):=by
 unfold Rk.f pv
 cases has with
 | true=>
  simp only [if_true]
  refine Ev.bind (specAll l hl) ?_
  by_cases h:ab l=true
  ·simp only [if_pos h,h,Bool.and_true]
   rw [show decide ((l.length:Int)≤12)=decide (l.length≤12) by rw [decide_eq_decide];omega]
   exact ev_some _
  ·simp only [if_neg h,show ab l=false by simpa using h,Bool.and_false]
   exact ev_some _
 | false=>
  simp only [Bool.false_eq_true,if_false]
  by_cases h:l.length=0
  ·simp only [if_pos (show (l.length:Int)=0 by omega),decide_eq_true h]
   refine Ev.bind (specAll l hl) ?_
   have hn:l = []:=List.length_eq_zero_iff.1 h
   subst hn
   simp only [ab_nil,if_true]
   exact ev_some _
  ·simp only [if_neg (show ¬ (l.length:Int)=0 by omega),decide_eq_false h]
   exact ev_some _
abbrev Rc:=S47
abbrev rr (l:List Rc) (i:Int):Rc:=Qb l i
theorem rr_nat (l:List Rc) (j:Nat) (h:j < l.length):rr l (j:Int)=l[j]:=by
 unfold rr Qb
 rw [Int.toNat_natCast,List.getD_eq_getElem?_getD,List.getElem?_eq_getElem h]
 rfl
def smallR (r:Rc):Prop:=r.f3.length≤1000000000000000∧r.f5.length≤1000000000000000
def smallRs (l:List Rc):Prop:=l.length≤1000000000000000∧∀ r∈l,smallR r
theorem smallRs_at {l:List Rc} (h:smallRs l) (j:Nat) (hj:j < l.length):smallR (rr l (j:Int)):=by
 rw [rr_nat l j hj]
 exact h.2 _ (List.getElem_mem hj)
def rv (r:Rc):Bool:=decide ((0≤r.f0∧r.f0≤99999)∧(0≤r.f1∧r.f1≤99999))&&(pv r.f2 r.f3&&pv r.f4 r.f5)
theorem implRec (r:Rc) (h:smallR r):Ev (fun k=>Rb.f k r.f0 r.f1 r.f2 r.f3 r.f4 r.f5) (rv r):=by
 unfold Rb.f rv
 simp only [baseValid_eq,bsome,decide_eq_true_eq]
 by_cases h0:(0≤r.f0∧r.f0≤99999)∧(0≤r.f1∧r.f1≤99999)
 ·simp only [if_pos h0,decide_eq_true h0,Bool.true_and]
  refine Ev.bind (implPart _ _ h.1) ?_
  by_cases h1:pv r.f2 r.f3=true
  ·simp only [if_pos h1,h1,Bool.true_and]
   exact Ev.bind (implPart _ _ h.2) (ev_some _)
  ·simp only [if_neg h1,show pv r.f2 r.f3=false by simpa using h1,Bool.false_and]
   exact ev_some _
 ·simp only [if_neg h0,decide_eq_false h0,Bool.false_and]
  exact ev_some _
theorem specRec (r:Rc) (h:smallR r):Ev (fun k=>Rd.f k r.f0 r.f1 r.f2 r.f3 r.f4 r.f5) (rv r):=by
 unfold Rd.f rv
 simp only [spec_l6In_eq,bsome,decide_eq_true_eq]
 by_cases h0 : 0≤r.f0∧r.f0≤99999
 ·by_cases h1 : 0≤r.f1∧r.f1≤99999
  ·simp only [if_pos h0,if_pos h1,decide_eq_true (show (0≤r.f0∧r.f0≤99999)∧(0≤r.f1∧r.f1≤99999) from ⟨h0,h1⟩),Bool.true_and]
   refine Ev.bind (specPart _ _ h.1) ?_
   by_cases h2:pv r.f2 r.f3=true
   ·simp only [if_pos h2,h2,Bool.true_and]
    exact Ev.bind (specPart _ _ h.2) (ev_some _)
   ·simp only [if_neg h2,show pv r.f2 r.f3=false by simpa using h2,Bool.false_and]
    exact ev_some _
  ·simp only [if_pos h0,if_neg h1,decide_eq_false (show ¬ ((0≤r.f0∧r.f0≤99999)∧(0≤r.f1∧r.f1≤99999)) from fun h=>h1 h.2),Bool.false_and]
   exact ev_some _
 ·simp only [if_neg h0,decide_eq_false (show ¬ ((0≤r.f0∧r.f0≤99999)∧(0≤r.f1∧r.f1≤99999)) from fun h=>h0 h.1),Bool.false_and]
  exact ev_some _
def RF (l:List Rc) (i:Nat):Prop:=∀ j,i≤j→j < l.length→rv (rr l j)=true∧(0 < j→(rr l ((j:Int) - 1)).f0 < (rr l j).f0)
theorem RF_end {l:List Rc} {i:Nat} (h:l.length≤i):RF l i:=fun j h1 h2=>by omega
theorem RF_step {l:List Rc} {i:Nat} (h:i < l.length):RF l i↔(rv (rr l i)=true∧(0 < i→(rr l ((i:Int) - 1)).f0 < (rr l i).f0))∧RF l (i+1):=by
 constructor
 ·intro hv
  exact ⟨hv i (Nat.le_refl _) h,fun j h1 h2=>hv j (by omega) h2⟩
 ·rintro ⟨h1,h2⟩ j h3 h4
  by_cases e:j=i
  ·subst e;exact h1
  ·exact h2 j (by omega) h4
theorem implRecs_loop (l:List Rc) (hl:smallRs l) (a0 a1:Bool) (a2 a3 a4:Int):∀ (d i:Nat),l.length - i=d→i≤l.length→Evs (fun k=>Qc.l0 k l (l.length:Int) (i:Int) a0 a1 a2 a3 a4 l) (fun b=>b=true↔RF l i):=by
 intro d
 induction d with
 | zero=>
  intro i hd hi
  refine Evs.succ ?_
  simp only [Qc.l0,if_neg (show ¬ (i:Int) < (l.length:Int) by omega)]
  exact Evs.done (by simp;exact RF_end (by omega))
 | succ d ih=>
  intro i hd hi
  have hll:=hl.1
  have hn:=ih (i+1) (by omega) (by omega)
  have e1:wrap64 ((i:Int)+1)=((i+1:Nat):Int):=by rw [wrap_id (by omega) (by omega)];omega
  have e2:wrap64 ((i:Int) - 1)=(i:Int) - 1:=wrap_id (by omega) (by omega)
  rw [RF_step (show i < l.length by omega)]
  refine Evs.succ ?_
  simp only [Qc.l0,if_pos (show (i:Int) < (l.length:Int) by omega),if_pos (show (0:Int)≤i by omega),e1,e2]
  refine Evs.bind (Evs.of (implRec (rr l (i:Int)) (smallRs_at hl i (by omega))) rfl:Evs _ (fun x=>x=rv (rr l (i:Int)))) ?_
  rintro _ rfl
  by_cases h1:rv (rr l (i:Int))=true
  ·simp only [if_pos h1]
   by_cases h0:(i:Int) > 0
   ·simp only [if_pos h0,if_pos (show 0≤(i:Int) - 1 by omega),if_pos (show (i:Int) - 1 < (l.length:Int) by omega)]
    by_cases h2:(rr l ((i:Int) - 1)).f0 ≥ (rr l (i:Int)).f0
    ·simp only [if_pos h2]
     refine Evs.done ?_
     simp only [Bool.false_eq_true,false_iff]
     rintro ⟨⟨_,h3⟩,_⟩
     have:=h3 (by omega)
     omega
    ·simp only [if_neg h2]
     refine hn.mono fun b hb=>?_
     rw [hb]
     exact ⟨fun h=>⟨⟨h1,fun _=>by omega⟩,h⟩,fun h=>h.2⟩
   ·simp only [if_neg h0]
    refine hn.mono fun b hb=>?_
    rw [hb]
    exact ⟨fun h=>⟨⟨h1,fun h'=>absurd h' (by omega)⟩,h⟩,fun h=>h.2⟩
  ·simp only [if_neg h1]
   exact Evs.done (by simp only [Bool.false_eq_true,false_iff];exact fun h=>h1 h.1.1)
theorem specRecs_loop (l:List Rc) (hl:smallRs l):∀ (d i:Nat),l.length - i=d→i≤l.length→Evs (fun k=>Qf.l0 k l (i:Int)) (fun b=>b=true↔RF l i∧1≤l.length∧l.length≤6):=by
 intro d
 induction d with
 | zero=>
  intro i hd hi
  refine Evs.succ ?_
  simp only [Qf.l0,if_neg (show ¬ (i:Int) < (l.length:Int) by omega),spec_l6In_eq,bsome]
  exact Evs.done (by simp only [decide_eq_true_eq];exact ⟨fun h=>⟨RF_end (by omega),by omega,by omega⟩,fun h=>by have:=h.2;omega⟩)
 | succ d ih=>
  intro i hd hi
  have hll:=hl.1
  have hn:=ih (i+1) (by omega) (by omega)
  have e1:wrap64 ((i:Int)+1)=((i+1:Nat):Int):=by rw [wrap_id (by omega) (by omega)];omega
  have e2:wrap64 ((i:Int) - 1)=(i:Int) - 1:=wrap_id (by omega) (by omega)
  rw [RF_step (show i < l.length by omega)]
  refine Evs.succ ?_
  simp only [Qf.l0,if_pos (show (i:Int) < (l.length:Int) by omega),if_pos (show (0:Int)≤i by omega),e1,e2]
  refine Evs.bind (Evs.of (specRec (rr l (i:Int)) (smallRs_at hl i (by omega))) rfl:Evs _ (fun x=>x=rv (rr l (i:Int)))) ?_
  rintro _ rfl
  by_cases h1:rv (rr l (i:Int))=true
  ·simp only [if_pos h1]
   by_cases h0:(i:Int) > 0
   ·simp only [if_pos h0,if_pos (show 0≤(i:Int) - 1 by omega),if_pos (show (i:Int) - 1 < (l.length:Int) by omega)]
    by_cases h2:(rr l ((i:Int) - 1)).f0 ≥ (rr l (i:Int)).f0
    ·simp only [if_pos h2]
     refine Evs.done ?_
     simp only [Bool.false_eq_true,false_iff]
     rintro ⟨⟨⟨_,h3⟩,_⟩,_⟩
     have:=h3 (by omega)
     omega
    ·simp only [if_neg h2]
     refine hn.mono fun b hb=>?_
     rw [hb]
     exact ⟨fun h=>⟨⟨⟨h1,fun _=>by omega⟩,h.1⟩,h.2⟩,fun h=>⟨h.1.2,h.2⟩⟩
   ·simp only [if_neg h0]
    refine hn.mono fun b hb=>?_
    rw [hb]
    exact ⟨fun h=>⟨⟨⟨h1,fun h'=>absurd h' (by omega)⟩,h.1⟩,h.2⟩,fun h=>⟨h.1.2,h.2⟩⟩
  ·simp only [if_neg h1]
   exact Evs.done (by simp only [Bool.false_eq_true,false_iff];exact fun h=>h1 h.1.1.1)
def VB (a1:Bool) (a2 a3 a4:Int) (l:List Rc):Prop:=
 (if a2=255 then a3=0∧a4=0∧a1=false else (0≤a2∧a2≤254)∧(0≤a3∧a3≤99)∧(0≤a4∧a4≤9999))∧(1≤l.length∧l.length≤6)∧(a1=true→l.length=1)∧RF l 0
theorem implB_j0 (a0 a1:Bool) (a2 a3 a4:Int) (l:List Rc) (hl:smallRs l):Evs (fun k=>Qc.j0 k a0 a1 a2 a3 a4 l) (fun b=>b=true↔(1≤l.length∧l.length≤6)∧(a1=true→l.length=1)∧RF l 0):=by
 have hr:=implRecs_loop l hl a0 a1 a2 a3 a4 l.length 0 (by omega) (by omega)
 refine Evs.succ ?_
 simp only [Qc.j0,Ry,bsome,decide_eq_true_eq]
 by_cases h : 1≤(l.length:Int)∧(l.length:Int)≤6
 ·simp only [if_pos h]
  cases a1 with
  | true=>
   simp only [if_true]
   refine Evs.succ ?_
   by_cases h1:l.length=1
   ·simp only [Qc.j1,show ((l.length:Int) != 1)=false by rw [h1];rfl,Bool.false_eq_true,if_false]
    refine hr.mono fun b hb=>?_
    rw [hb]
    exact ⟨fun h2=>⟨by omega,fun _=>h1,h2⟩,fun h2=>h2.2.2⟩
   ·simp only [Qc.j1,show ((l.length:Int) != 1)=true by simp;omega,if_true]
    exact Evs.done (by simp only [Bool.false_eq_true,false_iff];exact fun h2=>h1 (h2.2.1 trivial))
  | false=>
   simp only [Bool.false_eq_true,if_false]
   refine Evs.succ ?_
   simp only [Qc.j1,Bool.false_eq_true,if_false]
   refine hr.mono fun b hb=>?_
   rw [hb]
   exact ⟨fun h2=>⟨by omega,(fun h3=>h3.elim),h2⟩,fun h2=>h2.2.2⟩
 ·simp only [if_neg h]
  refine Evs.succ ?_
  simp only [Qc.j1,if_true]
  exact Evs.done (by simp only [Bool.false_eq_true,false_iff];exact fun h2=>h ⟨by have:=h2.1.1;omega,by have:=h2.1.2;omega⟩)
theorem implB_evs (a0 a1:Bool) (a2 a3 a4:Int) (l:List Rc) (hl:smallRs l):Evs (fun k=>Qc.f k a0 a1 a2 a3 a4 l) (fun b=>b=true↔VB a1 a2 a3 a4 l):=by
 have hj:=implB_j0 a0 a1 a2 a3 a4 l hl
 unfold Qc.f VB
 by_cases h:a2=255
 ·simp only [if_pos h]
  by_cases h3:a3=0
  ·simp only [if_pos h3]
   by_cases h4:a4=0
   ·simp only [if_pos h4]
    cases a1 with
    | true=>
     simp only [if_true]
     exact Evs.done (by simp)
    | false=>
     simp only [Bool.false_eq_true,if_false]
     refine hj.mono fun b hb=>?_
     rw [hb]
     exact ⟨fun h2=>⟨⟨h3,h4,trivial⟩,h2.1,(fun h5=>h5.elim),h2.2.2⟩,fun h2=>⟨h2.2.1,(fun h5=>by cases h5),h2.2.2.2⟩⟩
   ·simp only [if_neg h4]
    exact Evs.done (by simp only [Bool.false_eq_true,false_iff];exact fun h2=>h4 h2.1.2.1)
  ·simp only [if_neg h3]
   exact Evs.done (by simp only [Bool.false_eq_true,false_iff];exact fun h2=>h3 h2.1.1)
 ·simp only [if_neg h,idValid_eqB,Ry,bsome,decide_eq_true_eq]
  by_cases h2 : 0≤a2∧a2≤254
  ·simp only [if_pos h2]
   by_cases h3 : 0≤a3∧a3≤99
   ·simp only [if_pos h3]
    by_cases h4 : 0≤a4∧a4≤9999
    ·simp only [if_pos h4]
     refine hj.mono fun b hb=>?_
     rw [hb]
     exact ⟨fun h5=>⟨⟨h2,h3,h4⟩,h5⟩,fun h5=>h5.2⟩
    ·simp only [if_neg h4]
     exact Evs.done (by simp only [Bool.false_eq_true,false_iff];exact fun h5=>h4 h5.1.2.2)
   ·simp only [if_neg h3]
    exact Evs.done (by simp only [Bool.false_eq_true,false_iff];exact fun h5=>h3 h5.1.2.1)
  ·simp only [if_neg h2]
   exact Evs.done (by simp only [Bool.false_eq_true,false_iff];exact fun h5=>h2 h5.1.1)
theorem specB_j0_true (a0 a1:Bool) (a2 a3 a4:Int) (l:List Rc):Evs (fun k=>Ql.j0 k true a0 a1 a2 a3 a4 l) (fun b=>b=false):=by
 refine Evs.succ ?_
 simp only [Ql.j0,if_true]
 exact Evs.done rfl
theorem specB_evs (a0 a1:Bool) (a2 a3 a4:Int) (l:List Rc) (hl:smallRs l):Evs (fun k=>Ql.f k a0 a1 a2 a3 a4 l) (fun b=>b=true↔VB a1 a2 a3 a4 l):=by
 have hr:=specRecs_loop l hl l.length 0 (by omega) (by omega)
 have no:∀ {P:Prop},¬ P→∀ b:Bool,b=false→(b=true↔P):=fun hP b hb=>by rw [hb];simp only [Bool.false_eq_true,false_iff];exact hP
 unfold Ql.f
 unfold Qf.f
 refine Evs.bind hr ?_
 intro t ht
 by_cases h:t=true
 ·obtain ⟨hRF,hl1⟩:=ht.1 h
  simp only [if_pos h,spec_l6In_eq,bsome,decide_eq_true_eq]
  by_cases h2 : 0≤a2∧a2≤255
  ·simp only [if_pos h2]
   by_cases h3 : 0≤a3∧a3≤99
   ·simp only [if_pos h3]
    by_cases h4 : 0≤a4∧a4≤9999
    ·simp only [decide_eq_true h4,Bool.not_true]
     refine Evs.succ ?_
     simp only [Ql.j0,Bool.false_eq_true,if_false]
     unfold VB
     by_cases h5:a2=255
     ·simp only [if_pos h5]
      by_cases h6:a3=0
      ·simp only [if_pos h6]
       by_cases h7:a4=0
       ·simp only [if_pos h7]
        refine Evs.done ?_
        cases a1
        ·simp;exact ⟨⟨h6,h7⟩,hl1,hRF⟩
        ·simp
       ·simp only [if_neg h7]
        exact Evs.done (no (fun h8=>h7 h8.1.2.1) _ rfl)
      ·simp only [if_neg h6]
       exact Evs.done (no (fun h8=>h6 h8.1.1) _ rfl)
     ·simp only [if_neg h5]
      cases a1 with
      | true=>
       simp only [if_true]
       refine Evs.done ?_
       simp only [beq_iff_eq]
       exact ⟨fun h8=>⟨⟨by omega,h3,h4⟩,hl1,fun _=>by omega,hRF⟩,fun h8=>by have:=h8.2.2.1 trivial;omega⟩
      | false=>
       simp only [Bool.false_eq_true,if_false]
       refine Evs.done ?_
       simp only [true_iff]
       exact ⟨⟨by omega,h3,h4⟩,hl1,(fun h8=>h8.elim),hRF⟩
    ·simp only [decide_eq_false h4,Bool.not_false]
     refine (specB_j0_true a0 a1 a2 a3 a4 l).mono (no ?_)
     unfold VB
     split
     ·rintro ⟨⟨_,h8,_⟩,_⟩
      exact h4 (by omega)
     ·exact fun h8=>h4 h8.1.2.2
   ·simp only [if_neg h3]
    refine (specB_j0_true a0 a1 a2 a3 a4 l).mono (no ?_)
    unfold VB
    split
    ·rintro ⟨⟨h8,_,_⟩,_⟩
     exact h3 (by omega)
    ·exact fun h8=>h3 h8.1.2.1
  ·simp only [if_neg h2]
   refine (specB_j0_true a0 a1 a2 a3 a4 l).mono (no ?_)
   unfold VB
   split
   ·rename_i h8
    exact fun _=>h2 (by omega)
   ·exact fun h8=>h2 (by have:=h8.1.1;omega)
 ·simp only [if_neg h]
  refine (specB_j0_true a0 a1 a2 a3 a4 l).mono (no ?_)
  exact fun h8=>h (ht.2 ⟨h8.2.2.2,h8.2.1⟩)
open Classical in
noncomputable def vb (a1:Bool) (a2 a3 a4:Int) (l:List Rc):Bool:=decide (VB a1 a2 a3 a4 l)
theorem vb_iff (a1:Bool) (a2 a3 a4:Int) (l:List Rc):vb a1 a2 a3 a4 l=true↔VB a1 a2 a3 a4 l:=by unfold vb;simp
theorem implB (a0 a1:Bool) (a2 a3 a4:Int) (l:List Rc) (hl:smallRs l):Ev (fun k=>Qc.f k a0 a1 a2 a3 a4 l) (vb a1 a2 a3 a4 l):=by
 obtain ⟨b,hb,h⟩:=implB_evs a0 a1 a2 a3 a4 l hl
 rw [show vb a1 a2 a3 a4 l=b by rw [Bool.eq_iff_iff,vb_iff,h]]
 exact hb
theorem specB (a0 a1:Bool) (a2 a3 a4:Int) (l:List Rc) (hl:smallRs l):Ev (fun k=>Ql.f k a0 a1 a2 a3 a4 l) (vb a1 a2 a3 a4 l):=by
 obtain ⟨b,hb,h⟩:=specB_evs a0 a1 a2 a3 a4 l hl
 rw [show vb a1 a2 a3 a4 l=b by rw [Bool.eq_iff_iff,vb_iff,h]]
 exact hb
abbrev Bt:=S39
abbrev rb (l:List Bt) (i:Int):Bt:=Qa l i
theorem rb_nat (l:List Bt) (j:Nat) (h:j < l.length):rb l (j:Int)=l[j]:=by
 unfold rb Qa
 rw [Int.toNat_natCast,List.getD_eq_getElem?_getD,List.getElem?_eq_getElem h]
 rfl
def smallBs (l:List Bt):Prop:=l.length≤2000000∧∀ b∈l,smallRs b.f5
theorem smallBs_at {l:List Bt} (h:smallBs l) (j:Nat) (hj:j < l.length):smallRs (rb l (j:Int)).f5:=by
 rw [rb_nat l j hj]
 exact h.2 _ (List.getElem_mem hj)
def fOff (b:Bt):Int:=(rr b.f5 0).f0
def lOff (b:Bt):Int:=(rr b.f5 ((b.f5.length:Int) - 1)).f0
def vB (b:Bt):Prop:=VB b.f1 b.f2 b.f3 b.f4 b.f5
theorem vB_pos {b:Bt} (h:vB b) : 1≤b.f5.length∧b.f5.length≤6:=h.2.1
theorem first_eq {b:Bt} (h:vB b):Re.f b.f0 b.f1 b.f2 b.f3 b.f4 b.f5=some (fOff b):=by
 have:=vB_pos h
 unfold Re.f
 rw [if_pos (show 0 < (b.f5.length:Int) by omega)]
 rfl
theorem last_eq {b:Bt} (h:vB b):Rh.f b.f0 b.f1 b.f2 b.f3 b.f4 b.f5=some (lOff b):=by
 have:=vB_pos h
 have e:wrap64 ((b.f5.length:Int) - 1)=(b.f5.length:Int) - 1:=wrap_id (by omega) (by omega)
 unfold Rh.f
 rw [e,if_pos (show 0≤(b.f5.length:Int) - 1 by omega),if_pos (show (b.f5.length:Int) - 1 < (b.f5.length:Int) by omega)]
 rfl
theorem lastS_eq {b:Bt} (h:vB b):Rp.f b.f0 b.f1 b.f2 b.f3 b.f4 b.f5=some (lOff b):=by
 have:=vB_pos h
 have e:wrap64 ((b.f5.length:Int) - 1)=(b.f5.length:Int) - 1:=wrap_id (by omega) (by omega)
 unfold Rp.f
 rw [e,if_pos (show 0≤(b.f5.length:Int) - 1 by omega),if_pos (show (b.f5.length:Int) - 1 < (b.f5.length:Int) by omega)]
 rfl
theorem RF_lt {l:List Rc} (h:RF l 0):∀ (d i:Nat),i+d+1 < l.length→(rr l (i:Int)).f0 < (rr l ((i+d+1:Nat):Int)).f0
 | 0,i,hi=>by
  have:=(h (i+1) (by omega) hi).2 (by omega)
  rw [show ((i+1:Nat):Int) - 1=(i:Int) by omega] at this
  exact this
 | d+1,i,hi=>by
  have h1:=RF_lt h d i (by omega)
  have:=(h (i+d+2) (by omega) (by omega)).2 (by omega)
  rw [show ((i+d+2:Nat):Int) - 1=((i+d+1:Nat):Int) by omega] at this
  exact Int.lt_trans h1 this
theorem fOff_le {b:Bt} (h:vB b):fOff b≤lOff b:=by
 have hp:=vB_pos h
 unfold fOff lOff
 by_cases h1:b.f5.length=1
 ·rw [h1]
  exact Int.le_refl _
 ·have:=RF_lt h.2.2.2 (b.f5.length - 2) 0 (by omega)
  rw [show ((0+(b.f5.length - 2)+1:Nat):Int)=(b.f5.length:Int) - 1 by omega] at this
  exact Int.le_of_lt this
def LF (l:List Bt) (i:Nat):Prop:=∀ j,i≤j→j < l.length→vB (rb l j)∧(0 < j→lOff (rb l ((j:Int) - 1)) < fOff (rb l j))
def VL (l:List Bt):Prop:=l.length≤8∧LF l 0
theorem LF_end {l:List Bt} {i:Nat} (h:l.length≤i):LF l i:=fun j h1 h2=>by omega
theorem LF_step {l:List Bt} {i:Nat} (h:i < l.length):LF l i↔(vB (rb l i)∧(0 < i→lOff (rb l ((i:Int) - 1)) < fOff (rb l i)))∧LF l (i+1):=by
 constructor
 ·intro hl
  exact ⟨hl i (Nat.le_refl _) h,fun j h1 h2=>hl j (by omega) h2⟩
 ·rintro ⟨h0,h1⟩ j hj1 hj2
  by_cases he:j=i
  ·subst he;exact h0
  ·exact h1 j (by omega) hj2
open Classical in
noncomputable def vl (l:List Bt):Bool:=decide (VL l)
theorem vl_iff (l:List Bt):vl l=true↔VL l:=by unfold vl;simp
theorem vl_of {b:Bool} {l:List Bt} (h:b=true↔VL l):b=vl l:=by
 rw [Bool.eq_iff_iff,h,vl_iff]
theorem vb_vB (b:Bt):vb b.f1 b.f2 b.f3 b.f4 b.f5=true↔vB b:=vb_iff _ _ _ _ _
theorem implLog_loop (l:List Bt) (hl:smallBs l):∀ (d i:Nat),l.length - i=d→i≤l.length→(∀ j,j < i→vB (rb l (j:Int)))→Evs (fun k=>Qi.l0 k l l (l.length:Int) (i:Int)) (fun b=>b=true↔LF l i):=by
 have hs:=hl.1
 intro d
 induction d with
 | zero=>
  intro i hd hi _
  refine Evs.succ ?_
  simp only [Qi.l0,if_neg (show ¬ (i:Int) < (l.length:Int) by omega)]
  exact Evs.done ⟨fun _=>LF_end (by omega),fun _=>rfl⟩
 | succ d ih=>
  intro i hd hi hv
  have hlt:i < l.length:=by omega
  have e1:wrap64 ((i:Int)+1)=((i+1:Nat):Int):=by rw [wrap_id (by omega) (by omega)];omega
  refine Evs.succ ?_
  simp only [Qi.l0,if_pos (show (i:Int) < (l.length:Int) by omega),if_pos (show (0:Int)≤(i:Int) by omega),e1]
  refine Evs.bind (Evs.of (implB (rb l i).f0 (rb l i).f1 (rb l i).f2 (rb l i).f3 (rb l i).f4 (rb l i).f5 (smallBs_at hl i hlt)) rfl) ?_
  rintro _ rfl
  by_cases hb:vB (rb l i)
  ·have hb2:=(vb_vB (rb l i)).2 hb
   simp only [if_pos hb2]
   have hv2:∀ j,j < i+1→vB (rb l (j:Int)):=fun j hj=>by
    by_cases he:j=i
    ·subst he;exact hb
    ·exact hv j (by omega)
   by_cases h0:i=0
   ·subst h0
    simp only [if_neg (show ¬ ((0:Nat):Int) > 0 by omega)]
    refine (ih 1 (by omega) (by omega) hv2).mono fun b hb3=>?_
    rw [hb3,LF_step hlt]
    exact ⟨fun h=>⟨⟨hb,fun h=>absurd h (by omega)⟩,h⟩,fun h=>h.2⟩
   ·have e2:wrap64 ((i:Int) - 1)=(i:Int) - 1:=wrap_id (by omega) (by omega)
    have hp:vB (rb l ((i:Int) - 1)):=by have:=hv (i - 1) (by omega);rwa [show ((i - 1:Nat):Int)=(i:Int) - 1 by omega] at this
    have f1:=last_eq hp
    have f2:=first_eq hb
    simp only [if_pos (show (i:Int) > 0 by omega),e2,if_pos (show 0≤(i:Int) - 1 by omega),if_pos (show (i:Int) - 1 < (l.length:Int) by omega)]
    rw [show (Qa l ((i:Int) - 1))=rb l ((i:Int) - 1) from rfl,show (Qa l (i:Int))=rb l (i:Int) from rfl,f1,f2]
    simp only [bsome]
    by_cases hc:lOff (rb l ((i:Int) - 1)) ≥ fOff (rb l i)
    ·simp only [if_pos hc]
     refine Evs.done ?_
     rw [LF_step hlt]
     simp only [Bool.false_eq_true,false_iff]
     intro h
     have:=h.1.2 (by omega)
     omega
    ·simp only [if_neg hc]
     refine (ih (i+1) (by omega) (by omega) hv2).mono fun b hb3=>?_
     rw [hb3,LF_step hlt]
     exact ⟨fun h=>⟨⟨hb,fun _=>by omega⟩,h⟩,fun h=>h.2⟩
  ·have hb2:¬ vb (rb l i).f1 (rb l i).f2 (rb l i).f3 (rb l i).f4 (rb l i).f5=true:=fun h=>hb ((vb_vB (rb l i)).1 h)
   simp only [if_neg hb2]
   refine Evs.done ?_
   rw [LF_step hlt]
   simp only [Bool.false_eq_true,false_iff]
   exact fun h=>hb h.1.1
theorem implLog (l:List Bt) (hl:smallBs l):Ev (fun k=>Qi.f k l) (vl l):=by
 have hs:=hl.1
 unfold Qi.f
 by_cases h:(l.length:Int) > 8
 ·simp only [if_pos h]
  have:vl l=false:=by rw [← Bool.not_eq_true,vl_iff];exact fun h2=>by have:=h2.1;omega
  rw [this]
  exact ev_some _
 ·simp only [if_neg h]
  obtain ⟨b,h1,h2⟩:=implLog_loop l hl l.length 0 (by omega) (by omega) (fun j hj=>by omega)
  have:b=vl l:=vl_of (h2.trans ⟨fun h3=>⟨by omega,h3⟩,fun h3=>h3.2⟩)
  rw [← this]
  exact h1
theorem specLog_loop (l:List Bt) (hl:smallBs l):∀ (d i:Nat),l.length - i=d→i≤l.length→(∀ j,j < i→vB (rb l (j:Int)))→Evs (fun k=>Qh.l0 k l (i:Int)) (fun b=>b=true↔LF l i∧l.length≤8):=by
 have hs:=hl.1
 intro d
 induction d with
 | zero=>
  intro i hd hi _
  refine Evs.succ ?_
  simp only [Qh.l0,if_neg (show ¬ (i:Int) < (l.length:Int) by omega)]
  refine Evs.done ?_
  rw [decide_eq_true_eq]
  exact ⟨fun h=>⟨LF_end (by omega),by omega⟩,fun h=>by omega⟩
 | succ d ih=>
  intro i hd hi hv
  have hlt:i < l.length:=by omega
  have e1:wrap64 ((i:Int)+1)=((i+1:Nat):Int):=by rw [wrap_id (by omega) (by omega)];omega
  refine Evs.succ ?_
  simp only [Qh.l0,if_pos (show (i:Int) < (l.length:Int) by omega),if_pos (show (0:Int)≤(i:Int) by omega),e1]
  refine Evs.bind (Evs.of (specB (rb l i).f0 (rb l i).f1 (rb l i).f2 (rb l i).f3 (rb l i).f4 (rb l i).f5 (smallBs_at hl i hlt)) rfl) ?_
  rintro _ rfl
  by_cases hb:vB (rb l i)
  ·have hb2:=(vb_vB (rb l i)).2 hb
   simp only [if_pos hb2]
   have hv2:∀ j,j < i+1→vB (rb l (j:Int)):=fun j hj=>by
    by_cases he:j=i
    ·subst he;exact hb
    ·exact hv j (by omega)
   by_cases h0:i=0
   ·subst h0
    simp only [if_neg (show ¬ ((0:Nat):Int) > 0 by omega)]
    refine (ih 1 (by omega) (by omega) hv2).mono fun b hb3=>?_
    rw [hb3,LF_step hlt]
    exact ⟨fun h=>⟨⟨⟨hb,fun h=>absurd h (by omega)⟩,h.1⟩,h.2⟩,fun h=>⟨h.1.2,h.2⟩⟩
   ·have e2:wrap64 ((i:Int) - 1)=(i:Int) - 1:=wrap_id (by omega) (by omega)
    have hp:vB (rb l ((i:Int) - 1)):=by have:=hv (i - 1) (by omega);rwa [show ((i - 1:Nat):Int)=(i:Int) - 1 by omega] at this
    have f1:=lastS_eq hp
    have hpos:=(vB_pos hb).1
    simp only [if_pos (show (i:Int) > 0 by omega),e2,if_pos (show 0≤(i:Int) - 1 by omega),if_pos (show (i:Int) - 1 < (l.length:Int) by omega)]
    rw [show (Qa l ((i:Int) - 1))=rb l ((i:Int) - 1) from rfl,show (Qa l (i:Int))=rb l (i:Int) from rfl,f1]
    simp only [bsome,if_pos (show 0 < ((rb l (i:Int)).f5.length:Int) by omega)]
    by_cases hc:lOff (rb l ((i:Int) - 1)) ≥ fOff (rb l i)
    ·simp only [if_pos (show lOff (rb l ((i:Int) - 1)) ≥ (Qb (rb l (i:Int)).f5 0).f0 from hc)]
     refine Evs.done ?_
     rw [LF_step hlt]
     simp only [Bool.false_eq_true,false_iff]
     intro h
     have:=h.1.1.2 (by omega)
     omega
    ·simp only [if_neg (show ¬ lOff (rb l ((i:Int) - 1)) ≥ (Qb (rb l (i:Int)).f5 0).f0 from hc)]
     refine (ih (i+1) (by omega) (by omega) hv2).mono fun b hb3=>?_
     rw [hb3,LF_step hlt]
     exact ⟨fun h=>⟨⟨⟨hb,fun _=>by omega⟩,h.1⟩,h.2⟩,fun h=>⟨h.1.2,h.2⟩⟩
  ·have hb2:¬ vb (rb l i).f1 (rb l i).f2 (rb l i).f3 (rb l i).f4 (rb l i).f5=true:=fun h=>hb ((vb_vB (rb l i)).1 h)
   simp only [if_neg hb2]
   refine Evs.done ?_
   rw [LF_step hlt]
   simp only [Bool.false_eq_true,false_iff]
   exact fun h=>hb h.1.1.1
theorem specLog (l:List Bt) (hl:smallBs l):Ev (fun k=>Qh.f k l) (vl l):=by
 unfold Qh.f
 obtain ⟨b,h1,h2⟩:=specLog_loop l hl l.length 0 (by omega) (by omega) (fun j hj=>by omega)
 have:b=vl l:=vl_of (h2.trans ⟨fun h3=>⟨h3.2,h3.1⟩,fun h3=>⟨h3.2,h3.1⟩⟩)
 rw [← this]
 exact h1
theorem VL_at {l:List Bt} (h:VL l) (j:Nat) (hj:j < l.length):vB (rb l (j:Int)):=(h.2 j (Nat.zero_le _) hj).1
theorem VL_lt {l:List Bt} (h:VL l):∀ (d i:Nat),i+d+1 < l.length→fOff (rb l (i:Int)) < fOff (rb l ((i+d+1:Nat):Int))
 | 0,i,hi=>by
  have h1:=(h.2 (i+1) (Nat.zero_le _) hi).2 (by omega)
  rw [show ((i+1:Nat):Int) - 1=(i:Int) by omega] at h1
  have:=fOff_le (VL_at h i (by omega))
  exact Int.lt_of_le_of_lt this h1
 | d+1,i,hi=>by
  have h0:=VL_lt h d i (by omega)
  have h1:=(h.2 (i+d+2) (Nat.zero_le _) (by omega)).2 (by omega)
  rw [show ((i+d+2:Nat):Int) - 1=((i+d+1:Nat):Int) by omega] at h1
  have:=fOff_le (VL_at h (i+d+1) (by omega))
  exact Int.lt_trans h0 (Int.lt_of_le_of_lt this h1)
theorem VL_lt' {l:List Bt} (h:VL l) {i j:Nat} (hij:i < j) (hj:j < l.length):fOff (rb l (i:Int)) < fOff (rb l (j:Int)):=by
 have:=VL_lt h (j - i - 1) i (by omega)
 rwa [show i+(j - i - 1)+1=j by omega] at this
abbrev Lr:=S70
abbrev Lb:=S34
def toR (x:Lr):Rc:=⟨x.f0,x.f1,x.f2,x.f3,x.f4,x.f5⟩
def toB (x:Lb):Bt:=⟨x.f0,x.f1,x.f2,x.f3,x.f4,x.f5.map toR⟩
theorem rdLr (l:List Lr) (j:Nat) (h:j < l.length):Qu l (j:Int)=l[j]:=by
 unfold Qu
 rw [Int.toNat_natCast,List.getD_eq_getElem?_getD,List.getElem?_eq_getElem h]
 rfl
theorem rdLb (l:List Lb) (j:Nat) (h:j < l.length):Qw l (j:Int)=l[j]:=by
 unfold Qw
 rw [Int.toNat_natCast,List.getD_eq_getElem?_getD,List.getElem?_eq_getElem h]
 rfl
def sz (a:Int) (P:Prop) (r:Int):Prop:=r = -1∨(0≤r∧r≤a∧P)
theorem szInts (l:List Int) (hl:l.length≤9223372036854775807) (a:Int) (h0 : 0≤a) (h1:a≤1048576):∃ r,Rf.f l a=some r∧sz a (l.length≤1048576) r:=by
 have e:wrap64 (a - (l.length:Int))=a - (l.length:Int):=wrap_id (by omega) (by omega)
 unfold Rf.f
 rw [e]
 by_cases h:a - (l.length:Int) < 0
 ·rw [if_pos h];exact ⟨_,rfl,Or.inl rfl⟩
 ·rw [if_neg h];exact ⟨_,rfl,Or.inr ⟨by omega,by omega,by omega⟩⟩
def okR (x:Lr):Prop:=x.f3.length≤1048576∧x.f5.length≤1048576
def bigR (x:Lr):Prop:=x.f3.length≤9223372036854775807∧x.f5.length≤9223372036854775807
theorem szRec (x:Lr) (hx:bigR x) (a:Int) (h0 : 0≤a) (h1:a≤1048576):∃ r,Rs.f x.f0 x.f1 x.f2 x.f3 x.f4 x.f5 a=some r∧sz a (okR x) r:=by
 obtain ⟨r1,e1,p1⟩:=szInts x.f3 hx.1 a h0 h1
 unfold Rs.f
 rw [e1]
 rw [bsome]
 rcases p1 with rfl|⟨q0,q1,q2⟩
 ·rw [if_pos (by omega)];exact ⟨_,rfl,Or.inl rfl⟩
 ·rw [if_neg (by omega)]
  obtain ⟨r2,e2,p2⟩:=szInts x.f5 hx.2 r1 q0 (by omega)
  rw [e2]
  rw [bsome]
  rcases p2 with rfl|⟨s0,s1,s2⟩
  ·rw [if_pos (by omega)];exact ⟨_,rfl,Or.inl rfl⟩
  ·rw [if_neg (by omega)];exact ⟨_,rfl,Or.inr ⟨s0,by omega,q2,s2⟩⟩
theorem szRecs_loop (l:List Lr) (hl:l.length≤1048576) (hx:∀ x∈l,bigR x):∀ (d i:Nat) (a:Int),l.length - i=d→i≤l.length→0≤a→a≤1048576→Evs (fun k=>Qy.l0 k l a (i:Int)) (sz a (∀ j,i≤j→(h:j < l.length)→okR l[j])):=by
 intro d
 induction d with
 | zero=>
  intro i a hd hi h0 h1
  refine Evs.succ ?_
  simp only [Qy.l0,if_neg (show ¬ (i:Int) < (l.length:Int) by omega)]
  exact Evs.done (Or.inr ⟨h0,Int.le_refl _,fun j hj h=>by omega⟩)
 | succ d ih=>
  intro i a hd hi h0 h1
  have hlt:i < l.length:=by omega
  have e1:wrap64 ((i:Int)+1)=((i+1:Nat):Int):=by rw [wrap_id (by omega) (by omega)];omega
  refine Evs.succ ?_
  obtain ⟨r,er,pr⟩:=szRec l[i] (hx _ (List.getElem_mem hlt)) a h0 h1
  simp only [Qy.l0,if_pos (show (i:Int) < (l.length:Int) by omega),if_pos (show (0:Int)≤(i:Int) by omega),rdLr l i hlt,er,bsome,e1]
  rcases pr with rfl|⟨q0,q1,q2⟩
  ·simp only [if_pos (show (-1:Int) < 0 by omega)]
   exact Evs.done (Or.inl rfl)
  ·simp only [if_neg (show ¬ r < 0 by omega)]
   refine (ih (i+1) r (by omega) (by omega) q0 (by omega)).mono fun r2 h2=>?_
   rcases h2 with h2|⟨s0,s1,s2⟩
   ·exact Or.inl h2
   ·refine Or.inr ⟨s0,by omega,fun j hj h=>?_⟩
    by_cases he:j=i
    ·subst he;exact q2
    ·exact s2 j (by omega) h
theorem szRecs (l:List Lr) (hl:l.length≤9223372036854775807) (hx:∀ x∈l,bigR x) (a:Int) (h0 : 0≤a) (h1:a≤1048576):Evs (fun k=>Qy.f k l a) (sz a (l.length≤1048576∧∀ x∈l,okR x)):=by
 have e:wrap64 (a - (l.length:Int))=a - (l.length:Int):=wrap_id (by omega) (by omega)
 unfold Qy.f
 simp only [e]
 by_cases h:a - (l.length:Int) < 0
 ·simp only [if_pos h];exact Evs.done (Or.inl rfl)
 ·simp only [if_neg h]
  refine (szRecs_loop l (by omega) hx l.length 0 _ rfl (by omega) (by omega) (by omega)).mono fun r hr=>?_
  rcases hr with hr|⟨s0,s1,s2⟩
  ·exact Or.inl hr
  ·refine Or.inr ⟨s0,by omega,by omega,fun x hx2=>?_⟩
   obtain ⟨j,hj,rfl⟩:=List.getElem_of_mem hx2
   exact s2 j (Nat.zero_le _) hj
def okB (x:Lb):Prop:=x.f5.length≤1048576∧∀ y∈x.f5,okR y
def bigB (x:Lb):Prop:=x.f5.length≤9223372036854775807∧∀ y∈x.f5,bigR y
theorem szBat (x:Lb) (hx:bigB x) (a:Int) (h0 : 0≤a) (h1:a≤1048576):Evs (fun k=>Rv.f k x.f0 x.f1 x.f2 x.f3 x.f4 x.f5 a) (sz a (okB x)):=by
 unfold Rv.f
 refine Evs.bind (szRecs x.f5 hx.1 hx.2 a h0 h1) ?_
 intro r hr
 rcases hr with rfl|⟨s0,s1,s2⟩
 ·simp only [if_pos (show (-1:Int) < 0 by omega)];exact Evs.done (Or.inl rfl)
 ·simp only [if_neg (show ¬ r < 0 by omega)];exact Evs.done (Or.inr ⟨s0,s1,s2⟩)
theorem szBats_loop (l:List Lb) (hl:l.length≤1048576) (hx:∀ x∈l,bigB x):∀ (d i:Nat) (a:Int),l.length - i=d→i≤l.length→0≤a→a≤1048576→Evs (fun k=>Q0.l0 k l a (i:Int)) (sz a (∀ j,i≤j→(h:j < l.length)→okB l[j])):=by
 intro d
 induction d with
 | zero=>
  intro i a hd hi h0 h1
  refine Evs.succ ?_
  simp only [Q0.l0,if_neg (show ¬ (i:Int) < (l.length:Int) by omega)]
  exact Evs.done (Or.inr ⟨h0,Int.le_refl _,fun j hj h=>by omega⟩)
 | succ d ih=>
  intro i a hd hi h0 h1
  have hlt:i < l.length:=by omega
  have e1:wrap64 ((i:Int)+1)=((i+1:Nat):Int):=by rw [wrap_id (by omega) (by omega)];omega
  refine Evs.succ ?_
  simp only [Q0.l0,if_pos (show (i:Int) < (l.length:Int) by omega),if_pos (show (0:Int)≤(i:Int) by omega),rdLb l i hlt,e1]
  refine Evs.bind (szBat l[i] (hx _ (List.getElem_mem hlt)) a h0 h1) ?_
  intro r pr
  rcases pr with rfl|⟨q0,q1,q2⟩
  ·simp only [if_pos (show (-1:Int) < 0 by omega)]
   exact Evs.done (Or.inl rfl)
  ·simp only [if_neg (show ¬ r < 0 by omega)]
   refine (ih (i+1) r (by omega) (by omega) q0 (by omega)).mono fun r2 h2=>?_
   rcases h2 with h2|⟨s0,s1,s2⟩
   ·exact Or.inl h2
   ·refine Or.inr ⟨s0,by omega,fun j hj h=>?_⟩
    by_cases he:j=i
    ·subst he;exact q2
    ·exact s2 j (by omega) h
theorem szBats (l:List Lb) (hl:l.length≤9223372036854775807) (hx:∀ x∈l,bigB x) (a:Int) (h0 : 0≤a) (h1:a≤1048576):Evs (fun k=>Q0.f k l a) (sz a (l.length≤1048576∧∀ x∈l,okB x)):=by
 have e:wrap64 (a - (l.length:Int))=a - (l.length:Int):=wrap_id (by omega) (by omega)
 unfold Q0.f
 simp only [e]
 by_cases h:a - (l.length:Int) < 0
 ·simp only [if_pos h];exact Evs.done (Or.inl rfl)
 ·simp only [if_neg h]
  refine (szBats_loop l (by omega) hx l.length 0 _ rfl (by omega) (by omega) (by omega)).mono fun r hr=>?_
  rcases hr with hr|⟨s0,s1,s2⟩
  ·exact Or.inl hr
  ·refine Or.inr ⟨s0,by omega,by omega,fun x hx2=>?_⟩
   obtain ⟨j,hj,rfl⟩:=List.getElem_of_mem hx2
   exact s2 j (Nat.zero_le _) hj
theorem set_mid {α:Type} (a:List α) (x y : α) (b:List α) (i:Nat) (h:i=a.length):(a++x::b).set i y=a++y::b:=by
 subst h
 simp
theorem fill_step {α:Type} (l:List α) (z : α) (i:Nat) (h:i < l.length):(l.take i++List.replicate (l.length - i) z).set i l[i]=l.take (i+1)++List.replicate (l.length - (i+1)) z:=by
 have e:l.length - i=(l.length - (i+1))+1:=by omega
 rw [e,List.replicate_succ,set_mid _ _ _ _ _ (by rw [length_take];omega)]
 have h2:l.take (i+1)=l.take i ++ [l[i]]:=by simp
 rw [h2,List.append_assoc]
 rfl
theorem fill_len {α:Type} (l:List α) (z : α) (i:Nat) (h:i≤l.length):(l.take i++List.replicate (l.length - i) z).length=l.length:=by
 rw [List.length_append,length_take,List.length_replicate]
 omega
theorem toInts (l:List Int) (hl:l.length≤1048576):Ev (fun k=>Q2.f k l) l:=by
 have loop:∀ (d i:Nat),l.length - i=d→i≤l.length→Ev (fun k=>Q2.l0 k l (l.take i++List.replicate (l.length - i) 0) (i:Int)) l:=by
  intro d
  induction d with
  | zero=>
   intro i hd hi
   refine ev_succ ?_
   simp only [Q2.l0,if_neg (show ¬ (i:Int) < (l.length:Int) by omega)]
   have:l.take i++List.replicate (l.length - i) 0=l:=by rw [List.take_of_length_le (by omega),hd];simp
   rw [this]
   exact ev_some _
  | succ d ih=>
   intro i hd hi
   have hlt:i < l.length:=by omega
   have e1:wrap64 ((i:Int)+1)=((i+1:Nat):Int):=by rw [wrap_id (by omega) (by omega)];omega
   refine ev_succ ?_
   simp only [Q2.l0,if_pos (show (i:Int) < (l.length:Int) by omega),if_pos (show (0:Int)≤(i:Int) by omega),fill_len l 0 i hi,e1,Int.toNat_natCast,rd_nat l i hlt,fill_step l 0 i hlt]
   exact ih (i+1) (by omega) (by omega)
 unfold Q2.f
 simp only [if_pos (show 0≤(l.length:Int) by omega),Int.toNat_natCast,if_pos (show l.length≤35184372088832 by omega)]
 exact loop l.length 0 rfl (by omega)
theorem toRec (x:Lr) (hx:okR x):Ev (fun k=>Rx.f k x.f0 x.f1 x.f2 x.f3 x.f4 x.f5) (x.f0,x.f1,x.f2,x.f3,x.f4,x.f5):=by
 unfold Rx.f
 refine Ev.bind (toInts x.f3 hx.1) ?_
 exact Ev.bind (toInts x.f5 hx.2) (ev_some _)
theorem toRecs (l:List Lr) (hl:l.length≤1048576) (hx:∀ x∈l,okR x):Ev (fun k=>Qv.f k l) (l.map toR):=by
 have hml:(l.map toR).length=l.length:=List.length_map ..
 have loop:∀ (d i:Nat),l.length - i=d→i≤l.length→Ev (fun k=>Qv.l0 k l ((l.map toR).take i++List.replicate ((l.map toR).length - i) z47) (i:Int)) (l.map toR):=by
  intro d
  induction d with
  | zero=>
   intro i hd hi
   refine ev_succ ?_
   simp only [Qv.l0,if_neg (show ¬ (i:Int) < (l.length:Int) by omega)]
   have:(l.map toR).take i++List.replicate ((l.map toR).length - i) z47=l.map toR:=by rw [List.take_of_length_le (by omega),hml,hd];simp
   rw [this]
   exact ev_some _
  | succ d ih=>
   intro i hd hi
   have hlt:i < l.length:=by omega
   have e1:wrap64 ((i:Int)+1)=((i+1:Nat):Int):=by rw [wrap_id (by omega) (by omega)];omega
   have hfs:=fill_step (l.map toR) z47 i (by omega)
   have hfl:=fill_len (l.map toR) z47 i (by omega)
   refine ev_succ ?_
   simp only [Qv.l0,if_pos (show (i:Int) < (l.length:Int) by omega),if_pos (show (0:Int)≤(i:Int) by omega),rdLr l i hlt,e1,hfl,Int.toNat_natCast]
   refine Ev.bind (toRec l[i] (hx _ (List.getElem_mem hlt))) ?_
   simp only [if_pos (show (i:Int) < ((l.map toR).length:Int) by omega)]
   have hg:(l.map toR)[i]=toR l[i]:=by simp
   rw [hg] at hfs
   rw [show (⟨l[i].f0,l[i].f1,l[i].f2,l[i].f3,l[i].f4,l[i].f5⟩:Rc)=toR l[i] from rfl,hfs]
   exact ih (i+1) (by omega) (by omega)
 unfold Qv.f
 simp only [if_pos (show 0≤(l.length:Int) by omega),Int.toNat_natCast,if_pos (show l.length≤3518437208883 by omega)]
 have:=loop l.length 0 rfl (by omega)
 rw [hml] at this
 exact this
theorem toBat (x:Lb) (hx:okB x):Ev (fun k=>Rz.f k x.f0 x.f1 x.f2 x.f3 x.f4 x.f5) (x.f0,x.f1,x.f2,x.f3,x.f4,x.f5.map toR):=by
 unfold Rz.f
 exact Ev.bind (toRecs x.f5 hx.1 hx.2) (ev_some _)
theorem toBats (l:List Lb) (hl:l.length≤1048576) (hx:∀ x∈l,okB x):Ev (fun k=>Qk.f k l) (l.map toB):=by
 have hml:(l.map toB).length=l.length:=List.length_map ..
 have loop:∀ (d i:Nat),l.length - i=d→i≤l.length→Ev (fun k=>Qk.l0 k l ((l.map toB).take i++List.replicate ((l.map toB).length - i) z39) (i:Int)) (l.map toB):=by
  intro d
  induction d with
  | zero=>
   intro i hd hi
   refine ev_succ ?_
   simp only [Qk.l0,if_neg (show ¬ (i:Int) < (l.length:Int) by omega)]
   have:(l.map toB).take i++List.replicate ((l.map toB).length - i) z39=l.map toB:=by rw [List.take_of_length_le (by omega),hml,hd];simp
   rw [this]
   exact ev_some _
  | succ d ih=>
   intro i hd hi
   have hlt:i < l.length:=by omega
   have e1:wrap64 ((i:Int)+1)=((i+1:Nat):Int):=by rw [wrap_id (by omega) (by omega)];omega
   have hfs:=fill_step (l.map toB) z39 i (by omega)
   have hfl:=fill_len (l.map toB) z39 i (by omega)
   refine ev_succ ?_
   simp only [Qk.l0,if_pos (show (i:Int) < (l.length:Int) by omega),if_pos (show (0:Int)≤(i:Int) by omega),rdLb l i hlt,e1,hfl,Int.toNat_natCast]
   refine Ev.bind (toBat l[i] (hx _ (List.getElem_mem hlt))) ?_
   simp only [if_pos (show (i:Int) < ((l.map toB).length:Int) by omega)]
   have hg:(l.map toB)[i]=toB l[i]:=by simp
   rw [hg] at hfs
   rw [show (⟨l[i].f0,l[i].f1,l[i].f2,l[i].f3,l[i].f4,l[i].f5.map toR⟩:Bt)=toB l[i] from rfl,hfs]
   exact ih (i+1) (by omega) (by omega)
 unfold Qk.f
 simp only [if_pos (show 0≤(l.length:Int) by omega),Int.toNat_natCast,if_pos (show l.length≤5026338869833 by omega)]
 have:=loop l.length 0 rfl (by omega)
 rw [hml] at this
 exact this
theorem eqInts_self (a:List Int) (hs:a.length≤1048576):Ev (fun k=>Qz.f k a a) true:=by
 have loop:∀ (d i:Nat),a.length - i=d→i≤a.length→Ev (fun k=>Qz.l0 k a a (i:Int)) true:=by
  intro d
  induction d with
  | zero=>
   intro i hd hi
   refine ev_succ ?_
   simp only [Qz.l0,if_neg (show ¬ (i:Int) < (a.length:Int) by omega)]
   exact ev_some _
  | succ d ih=>
   intro i hd hi
   have e1:wrap64 ((i:Int)+1)=((i+1:Nat):Int):=by rw [wrap_id (by omega) (by omega)];omega
   refine ev_succ ?_
   simp only [Qz.l0,if_pos (show (i:Int) < (a.length:Int) by omega),if_pos (show (0:Int)≤(i:Int) by omega),if_true,e1]
   exact ih (i+1) (by omega) (by omega)
 unfold Qz.f
 simp only [if_true]
 exact loop a.length 0 rfl (by omega)
def okRc (x:Rc):Prop:=x.f3.length≤1048576∧x.f5.length≤1048576
theorem eqRec_self (x:Rc) (hx:okRc x):Ev (fun k=>Rt.f k x.f0 x.f1 x.f2 x.f3 x.f4 x.f5 x.f0 x.f1 x.f2 x.f3 x.f4 x.f5) true:=by
 unfold Rt.f
 simp only [if_true,bne_self_eq_false,Bool.false_eq_true,if_false]
 refine Ev.bind (eqInts_self x.f3 hx.1) ?_
 simp only [if_true]
 refine Ev.bind (eqInts_self x.f5 hx.2) ?_
 simp only [if_true]
 exact ev_some _
theorem eqRecs_self (a:List Rc) (hs:a.length≤1048576) (hx:∀ x∈a,okRc x):Ev (fun k=>Qj.f k a a) true:=by
 have loop:∀ (d i:Nat),a.length - i=d→i≤a.length→Ev (fun k=>Qj.l0 k a a (i:Int)) true:=by
  intro d
  induction d with
  | zero=>
   intro i hd hi
   refine ev_succ ?_
   simp only [Qj.l0,if_neg (show ¬ (i:Int) < (a.length:Int) by omega)]
   exact ev_some _
  | succ d ih=>
   intro i hd hi
   have hlt:i < a.length:=by omega
   have e1:wrap64 ((i:Int)+1)=((i+1:Nat):Int):=by rw [wrap_id (by omega) (by omega)];omega
   refine ev_succ ?_
   simp only [Qj.l0,if_pos (show (i:Int) < (a.length:Int) by omega),if_pos (show (0:Int)≤(i:Int) by omega),e1]
   refine Ev.bind (eqRec_self (rr a (i:Int)) (by rw [rr_nat a i hlt];exact hx _ (List.getElem_mem hlt))) ?_
   simp only [if_true]
   exact ih (i+1) (by omega) (by omega)
 unfold Qj.f
 simp only [if_true]
 exact loop a.length 0 rfl (by omega)
def okBt (x:Bt):Prop:=x.f5.length≤1048576∧∀ y∈x.f5,okRc y
theorem eqBat_self (x:Bt) (hx:okBt x):Ev (fun k=>Ru.f k x.f0 x.f1 x.f2 x.f3 x.f4 x.f5 x.f0 x.f1 x.f2 x.f3 x.f4 x.f5) true:=by
 unfold Ru.f
 simp only [if_true,bne_self_eq_false,Bool.false_eq_true,if_false]
 refine Ev.bind (eqRecs_self x.f5 hx.1 hx.2) ?_
 simp only [if_true]
 exact ev_some _
theorem eqBats_self (a:List Bt) (hs:a.length≤1048576) (hx:∀ x∈a,okBt x):Ev (fun k=>Qe.f k a a) true:=by
 have loop:∀ (d i:Nat),a.length - i=d→i≤a.length→Ev (fun k=>Qe.l0 k a a (i:Int)) true:=by
  intro d
  induction d with
  | zero=>
   intro i hd hi
   refine ev_succ ?_
   simp only [Qe.l0,if_neg (show ¬ (i:Int) < (a.length:Int) by omega)]
   exact ev_some _
  | succ d ih=>
   intro i hd hi
   have hlt:i < a.length:=by omega
   have e1:wrap64 ((i:Int)+1)=((i+1:Nat):Int):=by rw [wrap_id (by omega) (by omega)];omega
   refine ev_succ ?_
   simp only [Qe.l0,if_pos (show (i:Int) < (a.length:Int) by omega),if_pos (show (0:Int)≤(i:Int) by omega),e1]
   refine Ev.bind (eqBat_self (rb a (i:Int)) (by rw [rb_nat a i hlt];exact hx _ (List.getElem_mem hlt))) ?_
   simp only [if_true]
   exact ih (i+1) (by omega) (by omega)
 unfold Qe.f
 simp only [if_true]
 exact loop a.length 0 rfl (by omega)
theorem okBt_of (x:Lb) (h:okB x):okBt (toB x):=by
 refine ⟨by show (x.f5.map toR).length≤1048576;rw [List.length_map];exact h.1,fun y hy=>?_⟩
 obtain ⟨z,hz,rfl⟩:=List.mem_map.1 hy
 exact h.2 z hz
theorem smallRs_of (x:Lb) (h:okB x):smallRs (toB x).f5:=by
 have h2:=okBt_of x h
 exact ⟨by have:=h2.1;omega,fun y hy=>⟨by have:=(h2.2 y hy).1;omega,by have:=(h2.2 y hy).2;omega⟩⟩
theorem maxLen_le:maxLen≤9223372036854775807:=by unfold maxLen;omega
theorem bigB_of {x:Lb} (h:WF34 x):bigB x:=by
 have hm:=maxLen_le
 unfold WF34 at h
 have h5:=h.2.2.2.2.2
 refine ⟨Nat.le_trans h5.1 hm,fun y hy=>?_⟩
 have h6:=h5.2 y hy
 unfold WF70 at h6
 exact ⟨Nat.le_trans h6.2.2.2.1.1 hm,Nat.le_trans h6.2.2.2.2.2.1 hm⟩
theorem uptoI_get (a:Int) (n j:Nat) (h:j < n):rd (uptoI a n) (j:Int)=a+(j:Int):=by
 unfold rd
 rw [Int.toNat_natCast,List.getD_eq_getElem?_getD]
 have:∀ (n j:Nat) (a:Int),j < n→(uptoI a n)[j]? = some (a+(j:Int)):=by
  intro n
  induction n with
  | zero=>intro j a h;omega
  | succ n ih=>
   intro j a h
   cases j with
   | zero=>simp [uptoI]
   | succ j=>
    show (uptoI (a+1) n)[j]? = _
    rw [ih j (a+1) (by omega)]
    congr 1
    omega
 rw [this n j a h]
 rfl
theorem heldInts (n:Nat) (a:Int) (h0 : 0≤a) (h1:a+(n:Int)≤9000000000000000000):Ev (fun k=>Qq.f k (uptoI a n) a) (a+(n:Int)):=by
 have loop:∀ (d i:Nat),n - i=d→i≤n→Ev (fun k=>Qq.l0 k (uptoI a n) (a+(i:Int)) (i:Int)) (a+(n:Int)):=by
  intro d
  induction d with
  | zero=>
   intro i hd hi
   obtain rfl:i=n:=by omega
   refine ev_succ ?_
   simp only [Qq.l0,uptoI_len,if_neg (show ¬ (i:Int) < (i:Int) by omega)]
   exact ev_some _
  | succ d ih=>
   intro i hd hi
   have e1:wrap64 ((i:Int)+1)=((i+1:Nat):Int):=by rw [wrap_id (by omega) (by omega)];omega
   have e2:wrap64 (a+(i:Int)+1)=a+((i+1:Nat):Int):=by rw [wrap_id (by omega) (by omega)];omega
   refine ev_succ ?_
   simp only [Qq.l0,uptoI_len,if_pos (show (i:Int) < (n:Int) by omega),if_pos (show (0:Int)≤(i:Int) by omega),uptoI_get a n i (by omega),if_true,e1,e2]
   exact ih (i+1) (by omega) (by omega)
 unfold Qq.f
 have h:=loop n 0 rfl (by omega)
 rw [show a+((0:Nat):Int)=a by omega] at h
 exact h
theorem markL_get (l:List Rc):∀ (m:Nat) (a:Int) (x:Rc),l[m]? = some x→(markL l a)[m]? = some (mkRX x (a+(cntL (l.take m):Int))):=by
 induction l with
 | nil=>intro m a x h;simp at h
 | cons y t ih=>
  intro m a x h
  cases m with
  | zero=>
   have:y=x:=by simpa using h
   subst this
   simp [markL,cntL]
  | succ m=>
   have h' : t[m]? = some x:=by simpa using h
   show (markL t (a+(cntX y:Int)))[m]? = _
   rw [ih m _ x h',List.take_succ_cons,cntL]
   congr 2
   omega
theorem rr_mark (l:List Rc) (a:Int) (m:Nat) (h:m < l.length):rr (markL l a) (m:Int)=mkRX l[m] (a+(cntL (l.take m):Int)):=by
 have h1:=markL_get l m a _ (List.getElem?_eq_getElem h)
 have h2:m < (markL l a).length:=by rw [markL_len];exact h
 rw [rr_nat _ m h2]
 exact (List.getElem?_eq_some_iff.1 h1).2
theorem heldRecs (l:List Rc) (a:Int) (h0 : 0≤a) (h1:a+(cntL l:Int)≤9000000000000000000):Ev (fun k=>Qr.f k (markL l a) a) (a+(cntL l:Int)):=by
 have loop:∀ (d i:Nat),l.length - i=d→i≤l.length→Ev (fun k=>Qr.l0 k (markL l a) (a+(cntL (l.take i):Int)) (i:Int)) (a+(cntL l:Int)):=by
  intro d
  induction d with
  | zero=>
   intro i hd hi
   obtain rfl:i=l.length:=by omega
   rw [List.take_length]
   refine ev_succ ?_
   simp only [Qr.l0,markL_len,if_neg (show ¬ (l.length:Int) < (l.length:Int) by omega)]
   exact ev_some _
  | succ d ih=>
   intro i hd hi
   have hlt:i < l.length:=by omega
   have hle:=le_cntL l
   have e1:wrap64 ((i:Int)+1)=((i+1:Nat):Int):=by rw [wrap_id (by omega) (by omega)];omega
   have hr:=rr_mark l a i hlt
   have hc:=cnt_at l (List.getElem?_eq_getElem hlt)
   have ht:=cntL_take l (i+1)
   generalize l[i]=x at hr hc
   obtain ⟨kk,hkk⟩:∃ kk:Int,kk=a+(cntL (l.take i):Int):=⟨_,rfl⟩
   rw [← hkk] at hr
   rw [← hkk]
   have hcx:cntX x=4+x.f3.length+x.f5.length:=rfl
   have w1:wrap64 (kk+1)=kk+1:=wrap_id (by omega) (by omega)
   have w2:wrap64 (kk+1+1)=kk+1+1:=wrap_id (by omega) (by omega)
   have w3:wrap64 (kk+1+1+1)=kk+1+1+1:=wrap_id (by omega) (by omega)
   have w4:wrap64 (kk+1+1+1+(x.f3.length:Int)+1)=kk+1+1+1+(x.f3.length:Int)+1:=wrap_id (by omega) (by omega)
   have hi1:=heldInts x.f3.length (kk+1+1+1) (by omega) (by omega)
   have hi2:=heldInts x.f5.length (kk+1+1+1+(x.f3.length:Int)+1) (by omega) (by omega)
   have ih':=ih (i+1) (by omega) (by omega)
   have hend:a+(cntL (l.take (i+1)):Int)=kk+1+1+1+(x.f3.length:Int)+1+(x.f5.length:Int):=by omega
   rw [hend] at ih'
   have hn1:¬ kk+1+1+1+(x.f3.length:Int) < 0:=by omega
   have hn2:¬ kk+1+1+1+(x.f3.length:Int)+1+(x.f5.length:Int) < 0:=by omega
   have hr' : Qb (markL l a) (i:Int)=mkRX x kk:=hr
   refine ev_succ ?_
   simp only [Qr.l0,markL_len,if_pos (show (i:Int) < (l.length:Int) by omega),if_pos (show (0:Int)≤(i:Int) by omega),hr',mkRX,if_true,w1,w2,w3,bne_self_eq_false,Bool.false_eq_true,if_false,e1]
   refine Ev.bind hi1 ?_
   simp only [if_neg hn1,bne_self_eq_false,Bool.false_eq_true,if_false,w4]
   refine Ev.bind hi2 ?_
   simp only [if_neg hn2]
   exact ih'
 unfold Qr.f
 have h:=loop l.length 0 rfl (by omega)
 rw [show a+(cntL (l.take 0):Int)=a by simp [cntL]] at h
 exact h
theorem cntL_bound (l:List Rc) (hl:l.length≤1048576) (hx:∀ x∈l,okRc x):cntL l≤2199027449856:=by
 have:∀ l:List Rc,(∀ x∈l,okRc x)→cntL l≤l.length * 2097156:=by
  intro l
  induction l with
  | nil=>intro _;simp [cntL]
  | cons y t ih=>
   intro hx
   have h1:=hx y List.mem_cons_self
   have h2:=ih (fun x hx'=>hx x (List.mem_cons_of_mem _ hx'))
   have h3:cntX y=4+y.f3.length+y.f5.length:=rfl
   have h4:=h1.1
   have h5:=h1.2
   simp only [cntL,List.length_cons]
   omega
 have:=this l hx
 omega
theorem Rc_ext {a b:Rc} (h0:a.f0=b.f0) (h1:a.f1=b.f1) (h2:a.f2=b.f2) (h3:a.f3=b.f3) (h4:a.f4=b.f4) (h5:a.f5=b.f5):a=b:=by
 cases a
 cases b
 simp_all
instance:DecidableEq Rc:=fun a b=>decidable_of_iff (a.f0=b.f0∧a.f1=b.f1∧a.f2=b.f2∧a.f3=b.f3∧a.f4=b.f4∧a.f5=b.f5) ⟨fun h=>Rc_ext h.1 h.2.1 h.2.2.1 h.2.2.2.1 h.2.2.2.2.1 h.2.2.2.2.2,fun h=>by rw [h];simp⟩
end Go.Proofs.Ytnjalgheihiagaa.Q
