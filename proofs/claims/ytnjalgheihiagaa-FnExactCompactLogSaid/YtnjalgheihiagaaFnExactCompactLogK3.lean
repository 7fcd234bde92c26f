/- The law FnExactCompactLog holds (part 4 of 6; merged by pack2.py). -/
import Derived.Shelf.Strings.Builder1
import Derived.LaidEqlPtr
import Derived.Lib.Builder
import Derived.Lib.SliceRun
import Derived.Test.YtnjalgheihiagaaFnExactCompactLogK2
set_option maxRecDepth 1000000
open List (setIfInBounds_toArray set_cons_zero set_cons_succ map_toArray map_cons map_nil length_drop length_take)
namespace Go.Proofs.Ytnjalgheihiagaa.T
open Go.RowKit Go.Proofs.YtnjalgheihiagaaW.PrintWords Go.Proofs.YtnjalgheihiagaaW.PrintLast Go.Proofs.YtnjalgheihiagaaW.PrintMore

set_option linter.unusedVariables false
set_option linter.unusedSimpArgs false
mutual
def Qc.j0:Nat→Bool→Bool→Int→Int→Int→List (S47)→Option (Bool)
 | 0,_,_,_,_,_,_=>none
 | k+1,x258000,x258001,x258002,x258003,x258004,x258005=>(Qt.f (x258005.length:Int) 1 6).bind fun t261=>(if t261=true then (if x258001=true then (Qc.j1 k ((x258005.length:Int) != 1) x258000 x258001 x258002 x258003 x258004 x258005) else (Qc.j1 k false x258000 x258001 x258002 x258003 x258004 x258005)) else (Qc.j1 k true x258000 x258001 x258002 x258003 x258004 x258005))
def Qc.j1:Nat→Bool→Bool→Bool→Int→Int→Int→List (S47)→Option (Bool)
 | 0,_,_,_,_,_,_,_=>none
 | k+1,x50,x258000,x258001,x258002,x258003,x258004,x258005=>if x50=true then (some false) else (Qc.l0 k x258005 (x258005.length:Int) 0 x258000 x258001 x258002 x258003 x258004 x258005)
def Qc.l0:Nat→List (S47)→Int→Int→Bool→Bool→Int→Int→Int→List (S47)→Option (Bool)
 | 0,_,_,_,_,_,_,_,_,_=>none
 | k+1,x52,x53,x54,x258000,x258001,x258002,x258003,x258004,x258005=>if x54 < x53 then (if 0≤x54 then (if x54 < (x52.length:Int) then ((Rb.f k ((Qb x52 x54).f0) ((Qb x52 x54).f1) ((Qb x52 x54).f2) ((Qb x52 x54).f3) ((Qb x52 x54).f4) ((Qb x52 x54).f5)).bind fun t264=>(if t264=true then (if x54 > 0 then (if 0≤(wrap64 (x54 - 1)) then (if (wrap64 (x54 - 1)) < (x258005.length:Int) then (if ((Qb x258005 (wrap64 (x54 - 1))).f0) ≥ ((Qb x52 x54).f0) then (some false) else (Qc.l0 k x52 x53 (wrap64 (x54+1)) x258000 x258001 x258002 x258003 x258004 x258005)) else (none)) else (none)) else (Qc.l0 k x52 x53 (wrap64 (x54+1)) x258000 x258001 x258002 x258003 x258004 x258005)) else (some false))) else (none)) else (none)) else (some true)
end
def Qc.f (k:Nat) (a0_0:Bool) (a0_1:Bool) (a0_2:Int) (a0_3:Int) (a0_4:Int) (l0_5:List (S47)):Option (Bool):=if a0_2=255 then (if a0_3=0 then (if a0_4=0 then (if a0_1=true then (some false) else (Qc.j0 k a0_0 a0_1 a0_2 a0_3 a0_4 l0_5)) else (some false)) else (some false)) else ((Rj.f a0_2).bind fun t258=>(if t258=true then ((Qt.f a0_3 0 99).bind fun t259=>(if t259=true then ((Qt.f a0_4 0 9999).bind fun t260=>(if t260=true then (Qc.j0 k a0_0 a0_1 a0_2 a0_3 a0_4 l0_5) else (some false))) else (some false))) else (some false)))
def Qc.T11:Bool×List (List Nat×List Nat):=(true,[([],[]),([0],[0]),([1],[1]),([2,1],[2]),([3],[3]),([4,3],[3,4]),([5,3,3],[3,5]),([6],[6]),([7,6],[6,7]),([6],[6]),([9,6],[6,9]),([8,10,6],[6,8,10]),([11,6],[6,11]),([12,6],[6,12]),([6],[6]),([14,6],[6,14]),([13,15,6],[6,13,15]),([6,16,3],[3,6,16]),([3,17],[3,17])])
def Qc.B11:List Nat:=[0,1,3,7,15,31,63,127,255,127,639,2047,4095,8191,127,16511,65535,131071,262143]
theorem Qc.tab11:rtab .any (opsOf Try.f31 11)=Qc.T11:=by kernel_rfl
theorem Qc.bits11:waitsOk Qc.T11.2 Qc.B11=true:=by kernel_rfl
set_option maxHeartbeats 8000000 in
theorem Qc.calls (k:Nat) (c9:Bool) (c0:Bool) (b4:Int) (b8:Int) (b9:Int) (j9:Option Addr) (d0:Nat) (a1:List (S47)) (r:Bool) (w:World) (D0:Kd.C k47 w j9 a1.length a1) (D1:a1.length≤d0) (h:Qc.f k c9 c0 b4 b8 b9 a1=some r) :
  Calls Try.prog 31 #[.agg #[.bool c9,.bool c0,.int .i64 b4,.int .i64 b8,.int .i64 b9,.slice j9 a1.length d0]] w fun e w'=>e = .returned (.bool r)∧Below w.heap.size w w':=by
 have hu39:=Try.underlying39;have hu47:=Try.underlying47;have j4:=zzm D0;have M1:=zzm D1;clear D0 D1;have HB:=zzm (Below.refl w.heap.size w);have H:(if b4=255 then (if b8=0 then (if b9=0 then (if c0=true then (some false) else (Qc.j0 k c9 c0 b4 b8 b9 a1)) else (some false)) else (some false)) else ((Rj.f b4).bind fun C5=>(if C5=true then ((Qt.f b8 0 99).bind fun C6=>(if C6=true then ((Qt.f b9 0 9999).bind fun C7=>(if C7=true then (Qc.j0 k c9 c0 b4 b8 b9 a1) else (some false))) else (some false))) else (some false))))=some r:=h;clear h;have F6:=zzm H;clear H;go_enter Try.func31,Try.ntmps31;go_upto_if 7 with (first|((with_reducible refine gate_dst (N:=1) rfl ?_);(try (refine gate_guard (by rfl) ?_;dsimp only));refine box_event ?hg (N:=1) ?hd (cs:=#[.bool c9,.bool c0,.int .i64 b4,.int .i64 b8,.int .i64 b9,.slice j9 a1.length d0]) (t:=39) ?hr ?_;(case hd=>rfl);(case hg=>rfl);(case hr=>first|(go_simp;done)|(go_simp;rfl));intro b0 hg w3 hbox hb;have b5:=zzm (zzp zzh1 hb);have b6:=zzm (hbox);have b7:=zzm ((by rw [hg];exact (zzo zzh1):w.heap.size≤b0));have g5:=zzm ((by rw [hg];exact (zzo zzh1):w.heap.size≤b0));clear HB;have HB:=b5;have a3:=b6;have M2:=b7;have M3:=g5;clear b5 b6 b7 g5 hb hbox hg;obtain ⟨t0,t1,t2,t3,t4,t5,t6,t7,t8,t9,v0,v1⟩:=zzc6 a3.out))
 (try simp only [Act.put,zzq,zzr,zzs]);go_cut [] (fun wc=>∃ (kq:Nat),Aside0 (Qc.j0 kq c9 c0 b4 b8 b9 a1=some r)∧Aside0 (kq≤k)∧Aside0 (wc.heap[b0]? = some (.cells #[.bool c9,.bool c0,.int .i64 b4,.int .i64 b8,.int .i64 b9,(.slice j9 a1.length d0)] 39 (0,0)))∧Aside0 (Below w.heap.size w wc))
 case first=>
  have H:=F6.out;clear F6;by_cases c5:b4=255
  ·
   rw [if_pos c5] at H;obtain ⟨h7,B3⟩:=zzQ c5;clear c5
   (first|rw [h7]|(simp only [i64_w,i32_w];rw [h7])|skip);by_cases c6:b8=0
   ·
    rw [if_pos c6] at H;obtain ⟨B5,B7⟩:=zzQ c6;clear c6;by_cases c7:b9=0
    ·
     rw [if_pos c7] at H;obtain ⟨B8,B9⟩:=zzQ c7;clear c7;by_cases c8:c0=true
     ·
      subst c8;replace H:=zzIt H;obtain rfl:=Option.some.inj H;obtain ⟨v2,v3,v4,v5,v6,v7,v8,v9,w0,w1,w2,w4⟩:=zzc6 a3.out;go_wp2;go_ret;exact ⟨zzR,zzh3⟩
     ·
      replace c8:=Bool.eq_false_iff.mpr c8;subst c8;replace H:=zzIf H;have H':=zzm H;clear H;obtain ⟨k0,k1,k2,k4,k5,k6,k7,k8,k9,l2,l3,l4⟩:=zzc6 a3.out;go_wp2;go_meet
      case rel=>exact ⟨_,H',⟨by first|omega|exact Nat.le_refl _⟩,⟨zzE a3.out⟩,⟨zzh3⟩⟩
    ·
     rw [if_neg c7] at H;obtain ⟨B8,B9⟩:=zzY c7;obtain rfl:=Option.some.inj H;obtain ⟨l5,l6,l7,l8,l9,m0,m1,m2,m3,m4,m5,m6⟩:=zzc6 a3.out;go_wp2;go_ret;exact ⟨zzR,zzh3⟩
   ·
    rw [if_neg c6] at H;obtain ⟨B5,B7⟩:=zzY c6;obtain rfl:=Option.some.inj H;obtain ⟨m7,m8,m9,n0,n1,n2,n3,n4,n5,n6,n7,n8⟩:=zzc6 a3.out;go_wp2;go_ret;exact ⟨zzR,zzh3⟩
  ·
   rw [if_neg c5] at H;obtain ⟨h7,B3⟩:=zzY c5
   (first|rw [h7]|(simp only [i64_w,i32_w];rw [h7])|skip);obtain ⟨C5,D2,H⟩:=zzG H;by_cases w5:C5=true
   ·
    subst w5;replace H:=zzIt H;obtain ⟨C6,F7,H⟩:=zzG H;by_cases w6:C6=true
    ·
     subst w6;replace H:=zzIt H;obtain ⟨C7,G3,H⟩:=zzG H;by_cases w7:C7=true
     ·
      subst w7;replace H:=zzIt H;have H':=zzm H;clear H;obtain ⟨n9,o0,o1,o2,o3,o4,o5,o6,o7,o8,o9,p0⟩:=zzc6 a3.out;go_wp2_with (first|((with_reducible refine gate_callee (f:=48) rfl ?_);refine goesL_ (some 22) rfl rfl Try.func48 (by kernel_rfl) rfl #[.int .i64 b4] rfl zzM2 ?_;(with_reducible refine (Rj.calls b4 true _ D2.out).mono ?_);rintro e w' ⟨rfl,⟨nd,rfl⟩⟩;refine ⟨_,rfl,?_⟩)|(go_at_call 49;(with_reducible refine (Qt.calls b8 0 99 true _ F7.out).mono ?_);rintro e w' ⟨rfl,⟨nd,rfl⟩⟩)|(go_at_call 49;(with_reducible refine (Qt.calls b9 0 9999 true _ G3.out).mono ?_);rintro e w' ⟨rfl,⟨nd,rfl⟩⟩));go_meet
      case rel=>exact ⟨_,H',⟨by first|omega|exact Nat.le_refl _⟩,⟨zzE a3.out⟩,⟨zzh3⟩⟩
     ·
      replace w7:=Bool.eq_false_iff.mpr w7;subst w7;replace H:=zzIf H;obtain rfl:=Option.some.inj H;obtain ⟨p1,p3,p4,p5,p6,p7,p8,p9,q0,q1,q2,q3⟩:=zzc6 a3.out;go_wp2_with (first|((with_reducible refine gate_callee (f:=48) rfl ?_);refine goesL_ (some 22) rfl rfl Try.func48 (by kernel_rfl) rfl #[.int .i64 b4] rfl zzM2 ?_;(with_reducible refine (Rj.calls b4 true _ D2.out).mono ?_);rintro e w' ⟨rfl,⟨nd,rfl⟩⟩;refine ⟨_,rfl,?_⟩)|(go_at_call 49;(with_reducible refine (Qt.calls b8 0 99 true _ F7.out).mono ?_);rintro e w' ⟨rfl,⟨nd,rfl⟩⟩)|(go_at_call 49;(with_reducible refine (Qt.calls b9 0 9999 false _ G3.out).mono ?_);rintro e w' ⟨rfl,⟨nd,rfl⟩⟩));go_ret;exact ⟨zzR,zzh3⟩
    ·
     replace w6:=Bool.eq_false_iff.mpr w6;subst w6;replace H:=zzIf H;obtain rfl:=Option.some.inj H;obtain ⟨q4,q5,q6,q7,q8,q9,r0,r1,r2,r3,r4,r5⟩:=zzc6 a3.out;go_wp2_with (first|((with_reducible refine gate_callee (f:=48) rfl ?_);refine goesL_ (some 22) rfl rfl Try.func48 (by kernel_rfl) rfl #[.int .i64 b4] rfl zzM2 ?_;(with_reducible refine (Rj.calls b4 true _ D2.out).mono ?_);rintro e w' ⟨rfl,⟨nd,rfl⟩⟩;refine ⟨_,rfl,?_⟩)|(go_at_call 49;(with_reducible refine (Qt.calls b8 0 99 false _ F7.out).mono ?_);rintro e w' ⟨rfl,⟨nd,rfl⟩⟩));go_ret;exact ⟨zzR,zzh3⟩
   ·
    replace w5:=Bool.eq_false_iff.mpr w5;subst w5;replace H:=zzIf H;obtain rfl:=Option.some.inj H;obtain ⟨r6,r7,r8,r9,s0,s1,s2,s3,s4,s5,s6,s7⟩:=zzc6 a3.out;go_wp2_with (first|((with_reducible refine gate_callee (f:=48) rfl ?_);refine goesL_ (some 22) rfl rfl Try.func48 (by kernel_rfl) rfl #[.int .i64 b4] rfl zzM2 ?_;(with_reducible refine (Rj.calls b4 false _ D2.out).mono ?_);rintro e w' ⟨rfl,⟨nd,rfl⟩⟩;refine ⟨_,rfl,?_⟩));go_ret;exact ⟨zzR,zzh3⟩
 case rest=>
  clear F6;try clear c1
  try clear p2
  try clear c3
  try clear c4
  try clear c5
  try clear h7
  try clear B3
  try clear c6
  try clear B5
  try clear B7
  try clear c7
  try clear B8
  try clear B9
  try clear c8
  try clear w5
  try clear w6
  try clear w7
  try clear k0
  try clear k1
  try clear k2
  try clear k4
  try clear k5
  try clear k6
  try clear l5
  try clear l6
  try clear l7
  try clear l8
  try clear l9
  try clear m0
  try clear m7
  try clear m8
  try clear m9
  try clear n0
  try clear n1
  try clear n2
  try clear n9
  try clear o0
  try clear o1
  try clear o2
  try clear o3
  try clear o4
  try clear p1
  try clear p3
  try clear p4
  try clear p5
  try clear p6
  try clear p7
  try clear q4
  try clear q5
  try clear q6
  try clear q7
  try clear q8
  try clear q9
  try clear r6
  try clear r7
  try clear r8
  try clear r9
  try clear s0
  try clear s1
  try clear t0
  try clear t1
  try clear t2
  try clear t3
  try clear t4
  try clear t5
  try clear v2
  try clear v3
  try clear v4
  try clear v5
  try clear v6
  try clear v7
  try clear k7
  try clear k8
  try clear k9
  try clear l2
  try clear l3
  try clear l4
  try clear m1
  try clear m2
  try clear m3
  try clear m4
  try clear m5
  try clear m6
  try clear n3
  try clear n4
  try clear n5
  try clear n6
  try clear n7
  try clear n8
  try clear o5
  try clear o6
  try clear o7
  try clear o8
  try clear o9
  try clear p0
  try clear p8
  try clear p9
  try clear q0
  try clear q1
  try clear q2
  try clear q3
  try clear r0
  try clear r1
  try clear r2
  try clear r3
  try clear r4
  try clear r5
  try clear s2
  try clear s3
  try clear s4
  try clear s5
  try clear s6
  try clear s7
  try clear t6
  try clear t7
  try clear t8
  try clear t9
  try clear v0
  try clear v1
  try clear v8
  try clear v9
  try clear w0
  try clear w1
  try clear w2
  try clear w4
  obtain ⟨kq,HA,HJ1,a3,HB⟩:=hcut;cases kq with
  | zero=>exact absurd HA.out (by simp [Qc.j0])
  | succ L4=>
   have H:=HA.out;clear HA;simp only [Qc.j0] at H;have C8:=zzm H;clear H;go_upto_region 6 with (fail);go_cut [50] (fun L5 wc=>∃ (kq:Nat) (j8:Bool),L5 = .bool j8∧Aside0 (Qc.j1 kq j8 c9 c0 b4 b8 b9 a1=some r)∧Aside0 (kq≤L4)∧Aside0 (wc.heap[b0]? = some (.cells #[.bool c9,.bool c0,.int .i64 b4,.int .i64 b8,.int .i64 b9,(.slice j9 a1.length d0)] 39 (0,0)))∧Aside0 (Below w.heap.size w wc))
   case first=>
    have H:=C8.out;clear C8;obtain ⟨G4,F8,H⟩:=zzG H;by_cases x2:G4=true
    ·
     subst x2;replace H:=zzIt H;by_cases x3:c0=true
     ·
      subst x3;replace H:=zzIt H;have H':=zzm H;clear H;obtain ⟨x4,x5,x6,x7,x8,x9,y0,y1,y2,y3,y4,y5⟩:=zzc6 a3.out;go_wp2_with (first|((with_reducible refine gate_callee (f:=49) rfl ?_);refine goesL_ (some 39) rfl rfl Try.func49 (by kernel_rfl) rfl #[.int .i64 (a1.length:Int),.int .i64 1,.int .i64 6] rfl zzM2 ?_;(with_reducible refine (Qt.calls (a1.length:Int) 1 6 true _ F8.out).mono ?_);rintro e w' ⟨rfl,⟨nd,rfl⟩⟩;refine ⟨_,rfl,?_⟩));go_meet
      case rel=>exact ⟨_,(((a1.length:Int) != 1)),(by first|rfl|(simp;done)|(simp [*];done)),H',⟨by have:=HJ1.out;first|omega|exact Nat.le_refl _⟩,⟨zzE a3.out⟩,⟨zzh3⟩⟩
     ·
      replace x3:=Bool.eq_false_iff.mpr x3;subst x3;replace H:=zzIf H;have H':=zzm H;clear H;obtain ⟨y6,y7,y8,y9,z0,z1,z2,z3,z4,z5,z6,z7⟩:=zzc6 a3.out;go_wp2_with (first|((with_reducible refine gate_callee (f:=49) rfl ?_);refine goesL_ (some 39) rfl rfl Try.func49 (by kernel_rfl) rfl #[.int .i64 (a1.length:Int),.int .i64 1,.int .i64 6] rfl zzM2 ?_;(with_reducible refine (Qt.calls (a1.length:Int) 1 6 true _ F8.out).mono ?_);rintro e w' ⟨rfl,⟨nd,rfl⟩⟩;refine ⟨_,rfl,?_⟩));go_meet
      case rel=>exact ⟨_,(false),(by first|rfl|(simp;done)|(simp [*];done)),H',⟨by have:=HJ1.out;first|omega|exact Nat.le_refl _⟩,⟨zzE a3.out⟩,⟨zzh3⟩⟩
    ·
     replace x2:=Bool.eq_false_iff.mpr x2;subst x2;replace H:=zzIf H;have H':=zzm H;clear H;obtain ⟨z8,z9,A0,A1,A2,A3,A4,A5,A6,A7,A8,A9⟩:=zzc6 a3.out;go_wp2_with (first|((with_reducible refine gate_callee (f:=49) rfl ?_);refine goesL_ (some 39) rfl rfl Try.func49 (by kernel_rfl) rfl #[.int .i64 (a1.length:Int),.int .i64 1,.int .i64 6] rfl zzM2 ?_;(with_reducible refine (Qt.calls (a1.length:Int) 1 6 false _ F8.out).mono ?_);rintro e w' ⟨rfl,⟨nd,rfl⟩⟩;refine ⟨_,rfl,?_⟩));go_meet
     case rel=>exact ⟨_,(true),(by first|rfl|(simp;done)|(simp [*];done)),H',⟨by have:=HJ1.out;first|omega|exact Nat.le_refl _⟩,⟨zzE a3.out⟩,⟨zzh3⟩⟩
   case rest=>
    clear C8;try clear c1
    try clear c2
    try clear p2
    try clear c3
    try clear c4
    try clear c5
    try clear h7
    try clear B3
    try clear c6
    try clear B5
    try clear B7
    try clear c7
    try clear B8
    try clear B9
    try clear c8
    try clear w5
    try clear w6
    try clear w7
    try clear x2
    try clear x3
    try clear k0
    try clear k1
    try clear k2
    try clear k4
    try clear k5
    try clear k6
    try clear l5
    try clear l6
    try clear l7
    try clear l8
    try clear l9
    try clear m0
    try clear m7
    try clear m8
    try clear m9
    try clear n0
    try clear n1
    try clear n2
    try clear n9
    try clear o0
    try clear o1
    try clear o2
    try clear o3
    try clear o4
    try clear p1
    try clear p3
    try clear p4
    try clear p5
    try clear p6
    try clear p7
    try clear q4
    try clear q5
    try clear q6
    try clear q7
    try clear q8
    try clear q9
    try clear r6
    try clear r7
    try clear r8
    try clear r9
    try clear s0
    try clear s1
    try clear x4
    try clear x5
    try clear x6
    try clear x7
    try clear x8
    try clear x9
    try clear y6
    try clear y7
    try clear y8
    try clear y9
    try clear z0
    try clear z1
    try clear z8
    try clear z9
    try clear A0
    try clear A1
    try clear A2
    try clear A3
    try clear t0
    try clear t1
    try clear t2
    try clear t3
    try clear t4
    try clear t5
    try clear v2
    try clear v3
    try clear v4
    try clear v5
    try clear v6
    try clear v7
    try clear k7
    try clear k8
    try clear k9
    try clear l2
    try clear l3
    try clear l4
    try clear m1
    try clear m2
    try clear m3
    try clear m4
    try clear m5
    try clear m6
    try clear n3
    try clear n4
    try clear n5
    try clear n6
    try clear n7
    try clear n8
    try clear o5
    try clear o6
    try clear o7
    try clear o8
    try clear o9
    try clear p0
    try clear p8
    try clear p9
    try clear q0
    try clear q1
    try clear q2
    try clear q3
    try clear r0
    try clear r1
    try clear r2
    try clear r3
    try clear r4
    try clear r5
    try clear s2
    try clear s3
    try clear s4
    try clear s5
    try clear s6
    try clear s7
    try clear y0
    try clear y1
    try clear y2
    try clear y3
    try clear y4
    try clear y5
    try clear z2
    try clear z3
    try clear z4
    try clear z5
    try clear z6
    try clear z7
    try clear A4
    try clear A5
    try clear A6
    try clear A7
    try clear A8
    try clear A9
    try clear t6
    try clear t7
    try clear t8
    try clear t9
    try clear v0
    try clear v1
    try clear v8
    try clear v9
    try clear w0
    try clear w1
    try clear w2
    try clear w4
    try clear p2
    obtain ⟨kq,j8,rfl,HA,HJ22,a3,HB⟩:=hcut;cases kq with
    | zero=>exact absurd HA.out (by simp [Qc.j1])
    | succ F9=>
     have H:=HA.out;clear HA;simp only [Qc.j1] at H;by_cases C3:j8=true
     ·
      subst C3;replace H:=zzIt H;obtain rfl:=Option.some.inj H;go_wp2;go_ret;exact ⟨zzR,zzh3⟩
     ·
      replace C3:=Bool.eq_false_iff.mpr C3;subst C3;replace H:=zzIf H;have H':=zzm H;clear H;obtain ⟨E2,E3,E4,E5,E6,E7,E8,E9,F0,F1,F2,F3⟩:=zzc6 a3.out;go_wp2;go_loopg [54] F9 (fun kq L6 w'=>∃ (a0:Int),L6 = .int .i64 a0∧Aside0 (Qc.l0 kq a1 (a1.length:Int) a0 c9 c0 b4 b8 b9 a1=some r)∧Aside0 (kq≤F9)∧Aside0 (w'.heap[b0]? = some (.cells #[.bool c9,.bool c0,.int .i64 b4,.int .i64 b8,.int .i64 b9,(.slice j9 a1.length d0)] 39 (0,0)))∧Aside0 (Below w.heap.size w w'))
      case atStart=>exact ⟨(0),(by first|rfl|(simp;done)|(simp [*];done)),H',⟨Nat.le_refl _⟩,⟨zzE a3.out⟩,⟨zzh3⟩⟩
      case round=>
       clear H';try clear c1
       try clear c2
       try clear p2
       try clear c3
       try clear c4
       try clear c5
       try clear h7
       try clear B3
       try clear c6
       try clear B5
       try clear B7
       try clear c7
       try clear B8
       try clear B9
       try clear c8
       try clear w5
       try clear w6
       try clear w7
       try clear x2
       try clear x3
       try clear C3
       try clear k0
       try clear k1
       try clear k2
       try clear k4
       try clear k5
       try clear k6
       try clear l5
       try clear l6
       try clear l7
       try clear l8
       try clear l9
       try clear m0
       try clear m7
       try clear m8
       try clear m9
       try clear n0
       try clear n1
       try clear n2
       try clear n9
       try clear o0
       try clear o1
       try clear o2
       try clear o3
       try clear o4
       try clear p1
       try clear p3
       try clear p4
       try clear p5
       try clear p6
       try clear p7
       try clear q4
       try clear q5
       try clear q6
       try clear q7
       try clear q8
       try clear q9
       try clear r6
       try clear r7
       try clear r8
       try clear r9
       try clear s0
       try clear s1
       try clear x4
       try clear x5
       try clear x6
       try clear x7
       try clear x8
       try clear x9
       try clear y6
       try clear y7
       try clear y8
       try clear y9
       try clear z0
       try clear z1
       try clear z8
       try clear z9
       try clear A0
       try clear A1
       try clear A2
       try clear A3
       try clear E2
       try clear E3
       try clear E4
       try clear E5
       try clear E6
       try clear E7
       try clear t0
       try clear t1
       try clear t2
       try clear t3
       try clear t4
       try clear t5
       try clear v2
       try clear v3
       try clear v4
       try clear v5
       try clear v6
       try clear v7
       try clear k7
       try clear k8
       try clear k9
       try clear l2
       try clear l3
       try clear l4
       try clear m1
       try clear m2
       try clear m3
       try clear m4
       try clear m5
       try clear m6
       try clear n3
       try clear n4
       try clear n5
       try clear n6
       try clear n7
       try clear n8
       try clear o5
       try clear o6
       try clear o7
       try clear o8
       try clear o9
       try clear p0
       try clear p8
       try clear p9
       try clear q0
       try clear q1
       try clear q2
       try clear q3
       try clear r0
       try clear r1
       try clear r2
       try clear r3
       try clear r4
       try clear r5
       try clear s2
       try clear s3
       try clear s4
       try clear s5
       try clear s6
       try clear s7
       try clear y0
       try clear y1
       try clear y2
       try clear y3
       try clear y4
       try clear y5
       try clear z2
       try clear z3
       try clear z4
       try clear z5
       try clear z6
       try clear z7
       try clear A4
       try clear A5
       try clear A6
       try clear A7
       try clear A8
       try clear A9
       try clear E8
       try clear E9
       try clear F0
       try clear F1
       try clear F2
       try clear F3
       try clear t6
       try clear t7
       try clear t8
       try clear t9
       try clear v0
       try clear v1
       try clear v8
       try clear v9
       try clear w0
       try clear w1
       try clear w2
       try clear w4
       try clear p2
       obtain ⟨a0,rfl,HA,HK3,a3,HB⟩:=hrel;cases gk with
       | zero=>exact absurd HA.out (by simp [Qc.l0])
       | succ k3=>
        have H:=HA.out;clear HA;simp only [Qc.l0] at H;by_cases B0:a0 < (a1.length:Int)
        ·
         rw [if_pos B0] at H;have G0:decide (a0 < (a1.length:Int))=true:=decide_eq_true B0;clear B0;by_cases D3 : 0≤a0
         ·
          rw [if_pos D3] at H;have M4:decide (0≤a0)=true:=decide_eq_true D3;clear D3;by_cases D4:a0 < (a1.length:Int)
          ·
           rw [if_pos D4] at H;have M5:decide (a0 < (a1.length:Int))=true:=decide_eq_true D4;clear D4;obtain ⟨G5,C4,H⟩:=zzG H;by_cases D5:G5=true
           ·
            subst D5;replace H:=zzIt H;by_cases B1:a0 > 0
            ·
             rw [if_pos B1] at H;have G1:decide (0 < a0)=true:=decide_eq_true B1;clear B1;obtain ⟨b3,hji38⟩:∃ j_:Int,(wrap64 (a0 - 1))=j_:=⟨_,rfl⟩;replace H:(if 0≤(b3) then (if (b3) < (a1.length:Int) then (if ((Qb a1 (b3)).f0) ≥ ((Qb a1 a0).f0) then (some false) else (Qc.l0 k3 a1 (a1.length:Int) (wrap64 (a0+1)) c9 c0 b4 b8 b9 a1)) else (none)) else (none))=some r:=by first|(rw [hji38] at H;exact H)|(simp only [hji38] at H ⊢;exact H)
             (try rw [hji38] at C4);have hji38w:(IntKind.i64.wrap (a0 - 1))=b3:=(i64_w _).trans hji38;by_cases D6 : 0≤(b3)
             ·
              rw [if_pos D6] at H;have M6:decide (0≤(b3))=true:=decide_eq_true D6;clear D6;by_cases D7:(b3) < (a1.length:Int)
              ·
               rw [if_pos D7] at H;have M7:decide ((b3) < (a1.length:Int))=true:=decide_eq_true D7;clear D7;by_cases B2:((Qb a1 (b3)).f0) ≥ ((Qb a1 a0).f0)
               ·
                rw [if_pos B2] at H;have G2:decide (((Qb a1 a0).f0)≤((Qb a1 (b3)).f0))=true:=decide_eq_true B2;clear B2;obtain rfl:=Option.some.inj H;have e9 : 0≤(a0:Int):=zzt;have g0:a0 < (a1.length:Int):=zzt;obtain ⟨a9,a6,a7,b1,b2,j5,d2,d3,d4,d5,d6,d7,d8,d9,e0,e1⟩:=Qs j4.out a0 e9 g0;cases j5;replace d2:=zzx HB.out d2;replace d3:=zzx HB.out d3;replace d4:=zzx HB.out d4;replace d5:=zzx HB.out d5;replace d6:=zzx HB.out d6;replace d7:=zzx HB.out d7;have g1:=zzm d9;have g2:=zzm d8;clear d9 d8;have g3:=zzm e1;have g4:=zzm e0;clear e1 e0;replace e9:=eq_true e9;replace g0:=eq_true g0;try go_wp2_with (first|((with_reducible refine gate_dst (N:=4) rfl ?_);(try (refine gate_guard (by rfl) ?_;dsimp only));refine box_event ?hg (N:=4) ?hd (cs:=#[.int .i64 0,.int .i64 0,.bool false,.slice none 0 0,.bool false,.slice none 0 0]) (t:=47) ?hr ?_;(case hd=>rfl);(case hg=>rfl);(case hr=>first|(go_simp;done)|(go_simp;rfl));intro a2 hg D8 hbox hb;have b5:=zzm (zzh (g:=b0) (o:=.cells #[.bool c9,.bool c0,.int .i64 b4,.int .i64 b8,.int .i64 b9,.slice (some a9) a1.length d0] 39 (0,0)) (zzE a3.out) hb);have b6:=zzm (zzp zzh2 hb);have b7:=zzm (hbox);have g5:=zzm ((by rw [hg];exact (zzo zzh2):w.heap.size≤a2));have h8:=zzm ((by rw [hg];exact (zzo zzh2):w.heap.size≤a2));have h9:=zzm ((by rw [hg];exact Nat.ne_of_lt (blk_lt (g:=b0) (o:=.cells #[.bool c9,.bool c0,.int .i64 b4,.int .i64 b8,.int .i64 b9,.slice (some a9) a1.length d0] 39 (0,0)) (zzE a3.out)):b0≠a2));have j3:=zzm ((by rw [hg];exact Nat.ne_of_gt (blk_lt (g:=b0) (o:=.cells #[.bool c9,.bool c0,.int .i64 b4,.int .i64 b8,.int .i64 b9,.slice (some a9) a1.length d0] 39 (0,0)) (zzE a3.out)):a2≠b0));clear a3 HB;have a3:=b5;have HB:=b6;have a4:=b7;have C0:=g5;have C1:=h8;have a5:=h9;have e2:=j3;clear b5 b6 b7 g5 h8 h9 j3 hb hbox hg;have M8:=e2.out;have M9:=a5.out;obtain ⟨G6,G7,G8,G9,H0,H1,H2,H3,H4,H5,H6,H7⟩:=zzc6 a4.out))
                have b5:Aside0 (((((((D8.setCell ⟨a2,0,none⟩ (.int .i64 ((Qb a1 a0).f0))).setCell ⟨a2,1,none⟩ (.int .i64 ((Qb a1 a0).f1))).setCell ⟨a2,2,none⟩ (.bool ((Qb a1 a0).f2))).setCell ⟨a2,3,none⟩ (.slice a6 ((Qb a1 a0).f3).length a7)).setCell ⟨a2,4,none⟩ (.bool ((Qb a1 a0).f4))).setCell ⟨a2,5,none⟩ (.slice b1 ((Qb a1 a0).f5).length b2)).heap[b0]? = some (.cells #[.bool c9,.bool c0,.int .i64 b4,.int .i64 b8,.int .i64 b9,.slice (some a9) a1.length d0] 39 (0,0))):=⟨by (with_reducible repeat (first|apply zzf|apply zzg|apply zze));refine zzj ?_ a5.out _;(with_reducible repeat (first|apply zzf|apply zzg|apply zze));refine zzj ?_ a5.out _;(with_reducible repeat (first|apply zzf|apply zzg|apply zze));refine zzj ?_ a5.out _;(with_reducible repeat (first|apply zzf|apply zzg|apply zze));refine zzj ?_ a5.out _;(with_reducible repeat (first|apply zzf|apply zzg|apply zze));refine zzj ?_ a5.out _;(with_reducible repeat (first|apply zzf|apply zzg|apply zze));refine zzj ?_ a5.out _;(with_reducible repeat (first|apply zzf|apply zzg|apply zze));exact a3.out⟩;have b6:Aside0 (((((((D8.setCell ⟨a2,0,none⟩ (.int .i64 ((Qb a1 a0).f0))).setCell ⟨a2,1,none⟩ (.int .i64 ((Qb a1 a0).f1))).setCell ⟨a2,2,none⟩ (.bool ((Qb a1 a0).f2))).setCell ⟨a2,3,none⟩ (.slice a6 ((Qb a1 a0).f3).length a7)).setCell ⟨a2,4,none⟩ (.bool ((Qb a1 a0).f4))).setCell ⟨a2,5,none⟩ (.slice b1 ((Qb a1 a0).f5).length b2)).heap[a2]? = some (.cells #[.int .i64 ((Qb a1 a0).f0),.int .i64 ((Qb a1 a0).f1),.bool ((Qb a1 a0).f2),.slice a6 ((Qb a1 a0).f3).length a7,.bool ((Qb a1 a0).f4),.slice b1 ((Qb a1 a0).f5).length b2] 47 (0,0))):=⟨by (with_reducible repeat (first|apply zzf|apply zzg|apply zze));refine zzi (cs:=#[.int .i64 ((Qb a1 a0).f0),.int .i64 ((Qb a1 a0).f1),.bool ((Qb a1 a0).f2),.slice a6 ((Qb a1 a0).f3).length a7,.bool ((Qb a1 a0).f4),.slice none 0 0]) ?_ 5 _ rfl;refine zzi (cs:=#[.int .i64 ((Qb a1 a0).f0),.int .i64 ((Qb a1 a0).f1),.bool ((Qb a1 a0).f2),.slice a6 ((Qb a1 a0).f3).length a7,.bool false,.slice none 0 0]) ?_ 4 _ rfl;refine zzi (cs:=#[.int .i64 ((Qb a1 a0).f0),.int .i64 ((Qb a1 a0).f1),.bool ((Qb a1 a0).f2),.slice none 0 0,.bool false,.slice none 0 0]) ?_ 3 _ rfl;refine zzi (cs:=#[.int .i64 ((Qb a1 a0).f0),.int .i64 ((Qb a1 a0).f1),.bool false,.slice none 0 0,.bool false,.slice none 0 0]) ?_ 2 _ rfl;refine zzi (cs:=#[.int .i64 ((Qb a1 a0).f0),.int .i64 0,.bool false,.slice none 0 0,.bool false,.slice none 0 0]) ?_ 1 _ rfl;refine zzi (cs:=#[.int .i64 0,.int .i64 0,.bool false,.slice none 0 0,.bool false,.slice none 0 0]) ?_ 0 _ rfl;(with_reducible repeat (first|apply zzf|apply zzg|apply zze));exact a4.out⟩;have b7:Aside0 (Below w.heap.size w ((((((D8.setCell ⟨a2,0,none⟩ (.int .i64 ((Qb a1 a0).f0))).setCell ⟨a2,1,none⟩ (.int .i64 ((Qb a1 a0).f1))).setCell ⟨a2,2,none⟩ (.bool ((Qb a1 a0).f2))).setCell ⟨a2,3,none⟩ (.slice a6 ((Qb a1 a0).f3).length a7)).setCell ⟨a2,4,none⟩ (.bool ((Qb a1 a0).f4))).setCell ⟨a2,5,none⟩ (.slice b1 ((Qb a1 a0).f5).length b2))):=⟨zzh3⟩
                (try clear a3)
                (try clear a4)
                (try clear HB);generalize ((((((D8.setCell ⟨a2,0,none⟩ (.int .i64 ((Qb a1 a0).f0))).setCell ⟨a2,1,none⟩ (.int .i64 ((Qb a1 a0).f1))).setCell ⟨a2,2,none⟩ (.bool ((Qb a1 a0).f2))).setCell ⟨a2,3,none⟩ (.slice a6 ((Qb a1 a0).f3).length a7)).setCell ⟨a2,4,none⟩ (.bool ((Qb a1 a0).f4))).setCell ⟨a2,5,none⟩ (.slice b1 ((Qb a1 a0).f5).length b2))=L7 at b5 b6 b7 ⊢;have a3:=b5;have a4:=b6;have HB:=b7;clear b5 b6 b7;have b5:=zzm (zzg a3.out);have b6:=zzm (zzg a4.out);have b7:=zzm (zzc HB.out);clear a3 a4 HB;have a3:=b5;have a4:=b6;have HB:=b7;clear b5 b6 b7;have j6 : 0≤((b3):Int):=zzt;have j7:(b3) < (a1.length:Int):=zzt;obtain ⟨C2,w8,w9,x0,x1,C9,e3,e4,e5,e6,e7,e8,g6,g7,g8,g9⟩:=Qs j4.out (b3) j6 j7;have h0:=e8;have h1:=e7;have h2:=e6;have h3:=e5;have h4:=e4;have h5:=e3;obtain rfl:a9=C2:=(by injection C9);replace e3:=zzx HB.out e3;replace e4:=zzx HB.out e4;replace e5:=zzx HB.out e5;replace e6:=zzx HB.out e6;replace e7:=zzx HB.out e7;replace e8:=zzx HB.out e8;have s8:=zzm g7;have F4:=zzm g6;clear g7 g6;have s9:=zzm g9;have F5:=zzm g8;clear g9 g8;replace j6:=eq_true j6;replace j7:=eq_true j7;refine start_ (n:=19) (S:=fun w'=>w'.cell? ⟨a2,0,none⟩=some (.int .i64 ((Qb a1 a0).f0))∧w'.cell? ⟨a2,1,none⟩=some (.int .i64 ((Qb a1 a0).f1))∧w'.cell? ⟨a2,2,none⟩=some (.bool ((Qb a1 a0).f2))∧w'.cell? ⟨a2,3,none⟩=some (.slice a6 ((Qb a1 a0).f3).length a7)∧w'.cell? ⟨a2,4,none⟩=some (.bool ((Qb a1 a0).f4))∧w'.cell? ⟨a2,5,none⟩=some (.slice b1 ((Qb a1 a0).f5).length b2)∧w'.cell? ⟨b0,0,none⟩=some (.bool c9)∧w'.cell? ⟨b0,1,none⟩=some (.bool c0)∧w'.cell? ⟨b0,2,none⟩=some (.int .i64 b4)∧w'.cell? ⟨b0,3,none⟩=some (.int .i64 b8)∧w'.cell? ⟨b0,4,none⟩=some (.int .i64 b9)∧w'.cell? ⟨b0,5,none⟩=some (.slice (some a9) a1.length d0)∧w'.cell? (a9.add (((b3)).toNat * 6))=some (.int .i64 ((Qb a1 (b3)).f0))∧w'.cell? ⟨(a9.add (((b3)).toNat * 6)).block,(a9.add (((b3)).toNat * 6)).off+1,none⟩=some (.int .i64 ((Qb a1 (b3)).f1))∧w'.cell? ⟨(a9.add (((b3)).toNat * 6)).block,(a9.add (((b3)).toNat * 6)).off+2,none⟩=some (.bool ((Qb a1 (b3)).f2))∧w'.cell? ⟨(a9.add (((b3)).toNat * 6)).block,(a9.add (((b3)).toNat * 6)).off+3,none⟩=some (.slice w8 ((Qb a1 (b3)).f3).length w9)∧w'.cell? ⟨(a9.add (((b3)).toNat * 6)).block,(a9.add (((b3)).toNat * 6)).off+4,none⟩=some (.bool ((Qb a1 (b3)).f4))∧w'.cell? ⟨(a9.add (((b3)).toNat * 6)).block,(a9.add (((b3)).toNat * 6)).off+5,none⟩=some (.slice x0 ((Qb a1 (b3)).f5).length x1)) (ds:=[]) (zzB 19 0) (by kernel_rfl) rfl rfl ⟨(zzk a4.out 0).trans rfl,(zzk a4.out 1).trans rfl,(zzk a4.out 2).trans rfl,(zzk a4.out 3).trans rfl,(zzk a4.out 4).trans rfl,(zzk a4.out 5).trans rfl,(zzk a3.out 0).trans rfl,(zzk a3.out 1).trans rfl,(zzk a3.out 2).trans rfl,(zzk a3.out 3).trans rfl,(zzk a3.out 4).trans rfl,(zzk a3.out 5).trans rfl,(zzx HB.out h5 :),(zzx HB.out h4 :),(zzx HB.out h3 :),(zzx HB.out h2 :),(zzx HB.out h1 :),(zzx HB.out h0 :)⟩ (fun d1=>?_);refine with_tabW Qc.tab11 Qc.bits11 (fun a8 h6=>?_);generalize L7.drew=N6 at a3 a4 HB s8 s9 e3 e4 e5 e6 e7 e8 d1 ⊢;refine zzT 0 59 19 1 a8 h6 d1 ?_
                refine one_ (i:=1) (N:=some 60) (zzB 19 3) rfl rfl (one_of a8.out (by kernel_rfl)) (by decide) (fun K hK=>?_);refine goes_ Try.func50 (by kernel_rfl) rfl #[.agg #[.int .i64 ((Qb a1 a0).f0),.int .i64 ((Qb a1 a0).f1),.bool ((Qb a1 a0).f2),.slice a6 ((Qb a1 a0).f3).length a7,.bool ((Qb a1 a0).f4),.slice b1 ((Qb a1 a0).f5).length b2]] (by rfl) rfl rfl zzM2 ?_;with_reducible refine (Rb.calls k3 ((Qb a1 a0).f0) ((Qb a1 a0).f1) ((Qb a1 a0).f2) _ _ ((Qb a1 a0).f3) ((Qb a1 a0).f4) _ _ ((Qb a1 a0).f5) true _ ?side1 ?side2 ?side3 ?side4 C4.out).mono ?_
                (case side1=>exact zzcb g1 HB)
                (case side2=>exact g2.out)
                (case side3=>exact zzcb g3 HB)
                (case side4=>exact g4.out);rintro e N7 ⟨rfl,hb⟩;refine ⟨_,rfl,?_⟩;have b5:=zzm (zzh (g:=b0) (o:=.cells #[.bool c9,.bool c0,.int .i64 b4,.int .i64 b8,.int .i64 b9,.slice (some a9) a1.length d0] 39 (0,0)) (zzE a3.out) hb);have b6:=zzm (zzh (g:=a2) (o:=.cells #[.int .i64 ((Qb a1 a0).f0),.int .i64 ((Qb a1 a0).f1),.bool ((Qb a1 a0).f2),.slice a6 ((Qb a1 a0).f3).length a7,.bool ((Qb a1 a0).f4),.slice b1 ((Qb a1 a0).f5).length b2] 47 (0,0)) (zzE a4.out) hb);have b7:=zzm (zzp zzh2 hb);clear a3 a4 HB;have a3:=b5;have a4:=b6;have HB:=b7;clear b5 b6 b7
                (try clear hb)
                (try clear hb2)
                (try clear hk)
                (try clear hi);refine hK.out _ _ ⟨(zzk a4.out 0).trans rfl,(zzk a4.out 1).trans rfl,(zzk a4.out 2).trans rfl,(zzk a4.out 3).trans rfl,(zzk a4.out 4).trans rfl,(zzk a4.out 5).trans rfl,(zzk a3.out 0).trans rfl,(zzk a3.out 1).trans rfl,(zzk a3.out 2).trans rfl,(zzk a3.out 3).trans rfl,(zzk a3.out 4).trans rfl,(zzk a3.out 5).trans rfl,(zzx HB.out h5 :),(zzx HB.out h4 :),(zzx HB.out h3 :),(zzx HB.out h2 :),(zzx HB.out h1 :),(zzx HB.out h0 :)⟩ (fun d1=>?_);clear hK K;refine zzO 60 ?_
                refine zzP 2 61 19 7 a8 ?_
                refine zzP 3 62 19 15 a8 ?_
                refine zzP 4 63 19 31 a8 ?_
                refine zzP 5 64 19 63 a8 ?_
                refine zzP 6 65 19 127 a8 ?_
                refine zzP 7 66 19 255 a8 ?_
                refine zzP 9 68 19 767 a8 ?_
                refine zzP 10 69 19 1791 a8 ?_
                refine zzP 14 73 19 18175 a8 ?_
                refine zzT 8 67 19 18431 a8 h6 d1 ?_
                refine zzP 11 70 19 20479 a8 ?_
                refine zzP 12 71 19 24575 a8 ?_
                refine zzT 13 72 19 32767 a8 h6 d1 ?_
                refine zzT 15 74 19 65535 a8 h6 d1 ?_
                refine zzP 16 75 19 131071 a8 ?_
                refine zzP 17 76 19 262143 a8 ?_
                refine zzP 18 77 19 524287 a8 ?_
                refine done_ (done_of a8.out (by kernel_rfl)) ?_;try go_wp2
                go_ret;exact ⟨by first|rfl|(simp [errW_none,errW_some] <;> rfl)|(simp only [← hji38];first|rfl|(simp [errW_none,errW_some] <;> rfl))|(simp [*,errW_none,errW_some] <;> rfl),zzh3⟩
               ·
                rw [if_neg B2] at H;have G2:decide (((Qb a1 a0).f0)≤((Qb a1 (b3)).f0))=false:=decide_eq_false B2;clear B2;have H':=zzm H;clear H;have e9 : 0≤(a0:Int):=zzt;have g0:a0 < (a1.length:Int):=zzt;obtain ⟨a9,a6,a7,b1,b2,j5,d2,d3,d4,d5,d6,d7,d8,d9,e0,e1⟩:=Qs j4.out a0 e9 g0;cases j5;replace d2:=zzx HB.out d2;replace d3:=zzx HB.out d3;replace d4:=zzx HB.out d4;replace d5:=zzx HB.out d5;replace d6:=zzx HB.out d6;replace d7:=zzx HB.out d7;have g1:=zzm d9;have g2:=zzm d8;clear d9 d8;have g3:=zzm e1;have g4:=zzm e0;clear e1 e0;replace e9:=eq_true e9;replace g0:=eq_true g0;try go_wp2_with (first|((with_reducible refine gate_dst (N:=4) rfl ?_);(try (refine gate_guard (by rfl) ?_;dsimp only));refine box_event ?hg (N:=4) ?hd (cs:=#[.int .i64 0,.int .i64 0,.bool false,.slice none 0 0,.bool false,.slice none 0 0]) (t:=47) ?hr ?_;(case hd=>rfl);(case hg=>rfl);(case hr=>first|(go_simp;done)|(go_simp;rfl));intro a2 hg D9 hbox hb;have b5:=zzm (zzh (g:=b0) (o:=.cells #[.bool c9,.bool c0,.int .i64 b4,.int .i64 b8,.int .i64 b9,.slice (some a9) a1.length d0] 39 (0,0)) (zzE a3.out) hb);have b6:=zzm (zzp zzh2 hb);have b7:=zzm (hbox);have g5:=zzm ((by rw [hg];exact (zzo zzh2):w.heap.size≤a2));have h8:=zzm ((by rw [hg];exact (zzo zzh2):w.heap.size≤a2));have h9:=zzm ((by rw [hg];exact Nat.ne_of_lt (blk_lt (g:=b0) (o:=.cells #[.bool c9,.bool c0,.int .i64 b4,.int .i64 b8,.int .i64 b9,.slice (some a9) a1.length d0] 39 (0,0)) (zzE a3.out)):b0≠a2));have j3:=zzm ((by rw [hg];exact Nat.ne_of_gt (blk_lt (g:=b0) (o:=.cells #[.bool c9,.bool c0,.int .i64 b4,.int .i64 b8,.int .i64 b9,.slice (some a9) a1.length d0] 39 (0,0)) (zzE a3.out)):a2≠b0));clear a3 HB;have a3:=b5;have HB:=b6;have a4:=b7;have C0:=g5;have C1:=h8;have a5:=h9;have e2:=j3;clear b5 b6 b7 g5 h8 h9 j3 hb hbox hg;have N0:=e2.out;have N1:=a5.out;obtain ⟨H8,H9,I0,I1,I2,I3,I4,I5,I6,I7,I8,I9⟩:=zzc6 a4.out))
                have b5:Aside0 (((((((D9.setCell ⟨a2,0,none⟩ (.int .i64 ((Qb a1 a0).f0))).setCell ⟨a2,1,none⟩ (.int .i64 ((Qb a1 a0).f1))).setCell ⟨a2,2,none⟩ (.bool ((Qb a1 a0).f2))).setCell ⟨a2,3,none⟩ (.slice a6 ((Qb a1 a0).f3).length a7)).setCell ⟨a2,4,none⟩ (.bool ((Qb a1 a0).f4))).setCell ⟨a2,5,none⟩ (.slice b1 ((Qb a1 a0).f5).length b2)).heap[b0]? = some (.cells #[.bool c9,.bool c0,.int .i64 b4,.int .i64 b8,.int .i64 b9,.slice (some a9) a1.length d0] 39 (0,0))):=⟨by (with_reducible repeat (first|apply zzf|apply zzg|apply zze));refine zzj ?_ a5.out _;(with_reducible repeat (first|apply zzf|apply zzg|apply zze));refine zzj ?_ a5.out _;(with_reducible repeat (first|apply zzf|apply zzg|apply zze));refine zzj ?_ a5.out _;(with_reducible repeat (first|apply zzf|apply zzg|apply zze));refine zzj ?_ a5.out _;(with_reducible repeat (first|apply zzf|apply zzg|apply zze));refine zzj ?_ a5.out _;(with_reducible repeat (first|apply zzf|apply zzg|apply zze));refine zzj ?_ a5.out _;(with_reducible repeat (first|apply zzf|apply zzg|apply zze));exact a3.out⟩;have b6:Aside0 (((((((D9.setCell ⟨a2,0,none⟩ (.int .i64 ((Qb a1 a0).f0))).setCell ⟨a2,1,none⟩ (.int .i64 ((Qb a1 a0).f1))).setCell ⟨a2,2,none⟩ (.bool ((Qb a1 a0).f2))).setCell ⟨a2,3,none⟩ (.slice a6 ((Qb a1 a0).f3).length a7)).setCell ⟨a2,4,none⟩ (.bool ((Qb a1 a0).f4))).setCell ⟨a2,5,none⟩ (.slice b1 ((Qb a1 a0).f5).length b2)).heap[a2]? = some (.cells #[.int .i64 ((Qb a1 a0).f0),.int .i64 ((Qb a1 a0).f1),.bool ((Qb a1 a0).f2),.slice a6 ((Qb a1 a0).f3).length a7,.bool ((Qb a1 a0).f4),.slice b1 ((Qb a1 a0).f5).length b2] 47 (0,0))):=⟨by (with_reducible repeat (first|apply zzf|apply zzg|apply zze));refine zzi (cs:=#[.int .i64 ((Qb a1 a0).f0),.int .i64 ((Qb a1 a0).f1),.bool ((Qb a1 a0).f2),.slice a6 ((Qb a1 a0).f3).length a7,.bool ((Qb a1 a0).f4),.slice none 0 0]) ?_ 5 _ rfl;refine zzi (cs:=#[.int .i64 ((Qb a1 a0).f0),.int .i64 ((Qb a1 a0).f1),.bool ((Qb a1 a0).f2),.slice a6 ((Qb a1 a0).f3).length a7,.bool false,.slice none 0 0]) ?_ 4 _ rfl;refine zzi (cs:=#[.int .i64 ((Qb a1 a0).f0),.int .i64 ((Qb a1 a0).f1),.bool ((Qb a1 a0).f2),.slice none 0 0,.bool false,.slice none 0 0]) ?_ 3 _ rfl;refine zzi (cs:=#[.int .i64 ((Qb a1 a0).f0),.int .i64 ((Qb a1 a0).f1),.bool false,.slice none 0 0,.bool false,.slice none 0 0]) ?_ 2 _ rfl;refine zzi (cs:=#[.int .i64 ((Qb a1 a0).f0),.int .i64 0,.bool false,.slice none 0 0,.bool false,.slice none 0 0]) ?_ 1 _ rfl;refine zzi (cs:=#[.int .i64 0,.int .i64 0,.bool false,.slice none 0 0,.bool false,.slice none 0 0]) ?_ 0 _ rfl;(with_reducible repeat (first|apply zzf|apply zzg|apply zze));exact a4.out⟩;have b7:Aside0 (Below w.heap.size w ((((((D9.setCell ⟨a2,0,none⟩ (.int .i64 ((Qb a1 a0).f0))).setCell ⟨a2,1,none⟩ (.int .i64 ((Qb a1 a0).f1))).setCell ⟨a2,2,none⟩ (.bool ((Qb a1 a0).f2))).setCell ⟨a2,3,none⟩ (.slice a6 ((Qb a1 a0).f3).length a7)).setCell ⟨a2,4,none⟩ (.bool ((Qb a1 a0).f4))).setCell ⟨a2,5,none⟩ (.slice b1 ((Qb a1 a0).f5).length b2))):=⟨zzh3⟩
                (try clear a3)
                (try clear a4)
                (try clear HB);generalize ((((((D9.setCell ⟨a2,0,none⟩ (.int .i64 ((Qb a1 a0).f0))).setCell ⟨a2,1,none⟩ (.int .i64 ((Qb a1 a0).f1))).setCell ⟨a2,2,none⟩ (.bool ((Qb a1 a0).f2))).setCell ⟨a2,3,none⟩ (.slice a6 ((Qb a1 a0).f3).length a7)).setCell ⟨a2,4,none⟩ (.bool ((Qb a1 a0).f4))).setCell ⟨a2,5,none⟩ (.slice b1 ((Qb a1 a0).f5).length b2))=L8 at b5 b6 b7 ⊢;have a3:=b5;have a4:=b6;have HB:=b7;clear b5 b6 b7;have b5:=zzm (zzg a3.out);have b6:=zzm (zzg a4.out);have b7:=zzm (zzc HB.out);clear a3 a4 HB;have a3:=b5;have a4:=b6;have HB:=b7;clear b5 b6 b7;have j6 : 0≤((b3):Int):=zzt;have j7:(b3) < (a1.length:Int):=zzt;obtain ⟨C2,w8,w9,x0,x1,C9,e3,e4,e5,e6,e7,e8,g6,g7,g8,g9⟩:=Qs j4.out (b3) j6 j7;have h0:=e8;have h1:=e7;have h2:=e6;have h3:=e5;have h4:=e4;have h5:=e3;obtain rfl:a9=C2:=(by injection C9);replace e3:=zzx HB.out e3;replace e4:=zzx HB.out e4;replace e5:=zzx HB.out e5;replace e6:=zzx HB.out e6;replace e7:=zzx HB.out e7;replace e8:=zzx HB.out e8;have s8:=zzm g7;have F4:=zzm g6;clear g7 g6;have s9:=zzm g9;have F5:=zzm g8;clear g9 g8;replace j6:=eq_true j6;replace j7:=eq_true j7;refine start_ (n:=19) (S:=fun w'=>w'.cell? ⟨a2,0,none⟩=some (.int .i64 ((Qb a1 a0).f0))∧w'.cell? ⟨a2,1,none⟩=some (.int .i64 ((Qb a1 a0).f1))∧w'.cell? ⟨a2,2,none⟩=some (.bool ((Qb a1 a0).f2))∧w'.cell? ⟨a2,3,none⟩=some (.slice a6 ((Qb a1 a0).f3).length a7)∧w'.cell? ⟨a2,4,none⟩=some (.bool ((Qb a1 a0).f4))∧w'.cell? ⟨a2,5,none⟩=some (.slice b1 ((Qb a1 a0).f5).length b2)∧w'.cell? ⟨b0,0,none⟩=some (.bool c9)∧w'.cell? ⟨b0,1,none⟩=some (.bool c0)∧w'.cell? ⟨b0,2,none⟩=some (.int .i64 b4)∧w'.cell? ⟨b0,3,none⟩=some (.int .i64 b8)∧w'.cell? ⟨b0,4,none⟩=some (.int .i64 b9)∧w'.cell? ⟨b0,5,none⟩=some (.slice (some a9) a1.length d0)∧w'.cell? (a9.add (((b3)).toNat * 6))=some (.int .i64 ((Qb a1 (b3)).f0))∧w'.cell? ⟨(a9.add (((b3)).toNat * 6)).block,(a9.add (((b3)).toNat * 6)).off+1,none⟩=some (.int .i64 ((Qb a1 (b3)).f1))∧w'.cell? ⟨(a9.add (((b3)).toNat * 6)).block,(a9.add (((b3)).toNat * 6)).off+2,none⟩=some (.bool ((Qb a1 (b3)).f2))∧w'.cell? ⟨(a9.add (((b3)).toNat * 6)).block,(a9.add (((b3)).toNat * 6)).off+3,none⟩=some (.slice w8 ((Qb a1 (b3)).f3).length w9)∧w'.cell? ⟨(a9.add (((b3)).toNat * 6)).block,(a9.add (((b3)).toNat * 6)).off+4,none⟩=some (.bool ((Qb a1 (b3)).f4))∧w'.cell? ⟨(a9.add (((b3)).toNat * 6)).block,(a9.add (((b3)).toNat * 6)).off+5,none⟩=some (.slice x0 ((Qb a1 (b3)).f5).length x1)) (ds:=[]) (zzB 19 0) (by kernel_rfl) rfl rfl ⟨(zzk a4.out 0).trans rfl,(zzk a4.out 1).trans rfl,(zzk a4.out 2).trans rfl,(zzk a4.out 3).trans rfl,(zzk a4.out 4).trans rfl,(zzk a4.out 5).trans rfl,(zzk a3.out 0).trans rfl,(zzk a3.out 1).trans rfl,(zzk a3.out 2).trans rfl,(zzk a3.out 3).trans rfl,(zzk a3.out 4).trans rfl,(zzk a3.out 5).trans rfl,(zzx HB.out h5 :),(zzx HB.out h4 :),(zzx HB.out h3 :),(zzx HB.out h2 :),(zzx HB.out h1 :),(zzx HB.out h0 :)⟩ (fun d1=>?_);refine with_tabW Qc.tab11 Qc.bits11 (fun a8 h6=>?_);generalize L8.drew=N8 at a3 a4 HB s8 s9 e3 e4 e5 e6 e7 e8 d1 ⊢;refine zzT 0 59 19 1 a8 h6 d1 ?_
                refine one_ (i:=1) (N:=some 60) (zzB 19 3) rfl rfl (one_of a8.out (by kernel_rfl)) (by decide) (fun K hK=>?_);refine goes_ Try.func50 (by kernel_rfl) rfl #[.agg #[.int .i64 ((Qb a1 a0).f0),.int .i64 ((Qb a1 a0).f1),.bool ((Qb a1 a0).f2),.slice a6 ((Qb a1 a0).f3).length a7,.bool ((Qb a1 a0).f4),.slice b1 ((Qb a1 a0).f5).length b2]] (by rfl) rfl rfl zzM2 ?_;with_reducible refine (Rb.calls k3 ((Qb a1 a0).f0) ((Qb a1 a0).f1) ((Qb a1 a0).f2) _ _ ((Qb a1 a0).f3) ((Qb a1 a0).f4) _ _ ((Qb a1 a0).f5) true _ ?side1 ?side2 ?side3 ?side4 C4.out).mono ?_
                (case side1=>exact zzcb g1 HB)
                (case side2=>exact g2.out)
                (case side3=>exact zzcb g3 HB)
                (case side4=>exact g4.out);rintro e N9 ⟨rfl,hb⟩;refine ⟨_,rfl,?_⟩;have b5:=zzm (zzh (g:=b0) (o:=.cells #[.bool c9,.bool c0,.int .i64 b4,.int .i64 b8,.int .i64 b9,.slice (some a9) a1.length d0] 39 (0,0)) (zzE a3.out) hb);have b6:=zzm (zzh (g:=a2) (o:=.cells #[.int .i64 ((Qb a1 a0).f0),.int .i64 ((Qb a1 a0).f1),.bool ((Qb a1 a0).f2),.slice a6 ((Qb a1 a0).f3).length a7,.bool ((Qb a1 a0).f4),.slice b1 ((Qb a1 a0).f5).length b2] 47 (0,0)) (zzE a4.out) hb);have b7:=zzm (zzp zzh2 hb);clear a3 a4 HB;have a3:=b5;have a4:=b6;have HB:=b7;clear b5 b6 b7
                (try clear hb)
                (try clear hb2)
                (try clear hk)
                (try clear hi);refine hK.out _ _ ⟨(zzk a4.out 0).trans rfl,(zzk a4.out 1).trans rfl,(zzk a4.out 2).trans rfl,(zzk a4.out 3).trans rfl,(zzk a4.out 4).trans rfl,(zzk a4.out 5).trans rfl,(zzk a3.out 0).trans rfl,(zzk a3.out 1).trans rfl,(zzk a3.out 2).trans rfl,(zzk a3.out 3).trans rfl,(zzk a3.out 4).trans rfl,(zzk a3.out 5).trans rfl,(zzx HB.out h5 :),(zzx HB.out h4 :),(zzx HB.out h3 :),(zzx HB.out h2 :),(zzx HB.out h1 :),(zzx HB.out h0 :)⟩ (fun d1=>?_);clear hK K;refine zzO 60 ?_
                refine zzP 2 61 19 7 a8 ?_
                refine zzP 3 62 19 15 a8 ?_
                refine zzP 4 63 19 31 a8 ?_
                refine zzP 5 64 19 63 a8 ?_
                refine zzP 6 65 19 127 a8 ?_
                refine zzP 7 66 19 255 a8 ?_
                refine zzP 9 68 19 767 a8 ?_
                refine zzP 10 69 19 1791 a8 ?_
                refine zzP 14 73 19 18175 a8 ?_
                refine zzT 8 67 19 18431 a8 h6 d1 ?_
                refine zzP 11 70 19 20479 a8 ?_
                refine zzP 12 71 19 24575 a8 ?_
                refine zzT 13 72 19 32767 a8 h6 d1 ?_
                refine zzT 15 74 19 65535 a8 h6 d1 ?_
                refine zzP 16 75 19 131071 a8 ?_
                refine zzP 17 76 19 262143 a8 ?_
                refine zzP 18 77 19 524287 a8 ?_
                refine done_ (done_of a8.out (by kernel_rfl)) ?_;try go_wp2
                go_roundg k3
                case measure=>have:=HJ1.out;have:=HJ22.out;have:=HK3.out;omega
                case rel=>exact ⟨(wrap64 (a0+1)),(by first|rfl|(simp;done)|(simp [*];done)),H',⟨by have:=HJ1.out;have:=HJ22.out;have:=HK3.out;omega⟩,⟨zzE a3.out⟩,⟨zzh3⟩⟩
              ·
               rw [if_neg D7] at H;exact absurd H (by simp)
             ·
              rw [if_neg D6] at H;exact absurd H (by simp)
            ·
             rw [if_neg B1] at H;have G1:decide (0 < a0)=false:=decide_eq_false B1;clear B1;have H':=zzm H;clear H;have e9 : 0≤(a0:Int):=zzt;have g0:a0 < (a1.length:Int):=zzt;obtain ⟨a9,a6,a7,b1,b2,j5,d2,d3,d4,d5,d6,d7,d8,d9,e0,e1⟩:=Qs j4.out a0 e9 g0;cases j5;replace d2:=zzx HB.out d2;replace d3:=zzx HB.out d3;replace d4:=zzx HB.out d4;replace d5:=zzx HB.out d5;replace d6:=zzx HB.out d6;replace d7:=zzx HB.out d7;have g1:=zzm d9;have g2:=zzm d8;clear d9 d8;have g3:=zzm e1;have g4:=zzm e0;clear e1 e0;replace e9:=eq_true e9;replace g0:=eq_true g0;try go_wp2_with (first|((with_reducible refine gate_dst (N:=4) rfl ?_);(try (refine gate_guard (by rfl) ?_;dsimp only));refine box_event ?hg (N:=4) ?hd (cs:=#[.int .i64 0,.int .i64 0,.bool false,.slice none 0 0,.bool false,.slice none 0 0]) (t:=47) ?hr ?_;(case hd=>rfl);(case hg=>rfl);(case hr=>first|(go_simp;done)|(go_simp;rfl));intro a2 hg E0 hbox hb;have b5:=zzm (zzh (g:=b0) (o:=.cells #[.bool c9,.bool c0,.int .i64 b4,.int .i64 b8,.int .i64 b9,.slice (some a9) a1.length d0] 39 (0,0)) (zzE a3.out) hb);have b6:=zzm (zzp zzh2 hb);have b7:=zzm (hbox);have g5:=zzm ((by rw [hg];exact (zzo zzh2):w.heap.size≤a2));have h8:=zzm ((by rw [hg];exact (zzo zzh2):w.heap.size≤a2));have h9:=zzm ((by rw [hg];exact Nat.ne_of_lt (blk_lt (g:=b0) (o:=.cells #[.bool c9,.bool c0,.int .i64 b4,.int .i64 b8,.int .i64 b9,.slice (some a9) a1.length d0] 39 (0,0)) (zzE a3.out)):b0≠a2));have j3:=zzm ((by rw [hg];exact Nat.ne_of_gt (blk_lt (g:=b0) (o:=.cells #[.bool c9,.bool c0,.int .i64 b4,.int .i64 b8,.int .i64 b9,.slice (some a9) a1.length d0] 39 (0,0)) (zzE a3.out)):a2≠b0));clear a3 HB;have a3:=b5;have HB:=b6;have a4:=b7;have C0:=g5;have C1:=h8;have a5:=h9;have e2:=j3;clear b5 b6 b7 g5 h8 h9 j3 hb hbox hg;have N2:=e2.out;have N3:=a5.out;obtain ⟨J0,J1,J2,J3,J4,J5,J6,J7,J8,J9,K0,K1⟩:=zzc6 a4.out))
             have b5:Aside0 (((((((E0.setCell ⟨a2,0,none⟩ (.int .i64 ((Qb a1 a0).f0))).setCell ⟨a2,1,none⟩ (.int .i64 ((Qb a1 a0).f1))).setCell ⟨a2,2,none⟩ (.bool ((Qb a1 a0).f2))).setCell ⟨a2,3,none⟩ (.slice a6 ((Qb a1 a0).f3).length a7)).setCell ⟨a2,4,none⟩ (.bool ((Qb a1 a0).f4))).setCell ⟨a2,5,none⟩ (.slice b1 ((Qb a1 a0).f5).length b2)).heap[b0]? = some (.cells #[.bool c9,.bool c0,.int .i64 b4,.int .i64 b8,.int .i64 b9,.slice (some a9) a1.length d0] 39 (0,0))):=⟨by (with_reducible repeat (first|apply zzf|apply zzg|apply zze));refine zzj ?_ a5.out _;(with_reducible repeat (first|apply zzf|apply zzg|apply zze));refine zzj ?_ a5.out _;(with_reducible repeat (first|apply zzf|apply zzg|apply zze));refine zzj ?_ a5.out _;(with_reducible repeat (first|apply zzf|apply zzg|apply zze));refine zzj ?_ a5.out _;(with_reducible repeat (first|apply zzf|apply zzg|apply zze));refine zzj ?_ a5.out _;(with_reducible repeat (first|apply zzf|apply zzg|apply zze));refine zzj ?_ a5.out _;(with_reducible repeat (first|apply zzf|apply zzg|apply zze));exact a3.out⟩;have b6:Aside0 (((((((E0.setCell ⟨a2,0,none⟩ (.int .i64 ((Qb a1 a0).f0))).setCell ⟨a2,1,none⟩ (.int .i64 ((Qb a1 a0).f1))).setCell ⟨a2,2,none⟩ (.bool ((Qb a1 a0).f2))).setCell ⟨a2,3,none⟩ (.slice a6 ((Qb a1 a0).f3).length a7)).setCell ⟨a2,4,none⟩ (.bool ((Qb a1 a0).f4))).setCell ⟨a2,5,none⟩ (.slice b1 ((Qb a1 a0).f5).length b2)).heap[a2]? = some (.cells #[.int .i64 ((Qb a1 a0).f0),.int .i64 ((Qb a1 a0).f1),.bool ((Qb a1 a0).f2),.slice a6 ((Qb a1 a0).f3).length a7,.bool ((Qb a1 a0).f4),.slice b1 ((Qb a1 a0).f5).length b2] 47 (0,0))):=⟨by (with_reducible repeat (first|apply zzf|apply zzg|apply zze));refine zzi (cs:=#[.int .i64 ((Qb a1 a0).f0),.int .i64 ((Qb a1 a0).f1),.bool ((Qb a1 a0).f2),.slice a6 ((Qb a1 a0).f3).length a7,.bool ((Qb a1 a0).f4),.slice none 0 0]) ?_ 5 _ rfl;refine zzi (cs:=#[.int .i64 ((Qb a1 a0).f0),.int .i64 ((Qb a1 a0).f1),.bool ((Qb a1 a0).f2),.slice a6 ((Qb a1 a0).f3).length a7,.bool false,.slice none 0 0]) ?_ 4 _ rfl;refine zzi (cs:=#[.int .i64 ((Qb a1 a0).f0),.int .i64 ((Qb a1 a0).f1),.bool ((Qb a1 a0).f2),.slice none 0 0,.bool false,.slice none 0 0]) ?_ 3 _ rfl;refine zzi (cs:=#[.int .i64 ((Qb a1 a0).f0),.int .i64 ((Qb a1 a0).f1),.bool false,.slice none 0 0,.bool false,.slice none 0 0]) ?_ 2 _ rfl;refine zzi (cs:=#[.int .i64 ((Qb a1 a0).f0),.int .i64 0,.bool false,.slice none 0 0,.bool false,.slice none 0 0]) ?_ 1 _ rfl;refine zzi (cs:=#[.int .i64 0,.int .i64 0,.bool false,.slice none 0 0,.bool false,.slice none 0 0]) ?_ 0 _ rfl;(with_reducible repeat (first|apply zzf|apply zzg|apply zze));exact a4.out⟩;have b7:Aside0 (Below w.heap.size w ((((((E0.setCell ⟨a2,0,none⟩ (.int .i64 ((Qb a1 a0).f0))).setCell ⟨a2,1,none⟩ (.int .i64 ((Qb a1 a0).f1))).setCell ⟨a2,2,none⟩ (.bool ((Qb a1 a0).f2))).setCell ⟨a2,3,none⟩ (.slice a6 ((Qb a1 a0).f3).length a7)).setCell ⟨a2,4,none⟩ (.bool ((Qb a1 a0).f4))).setCell ⟨a2,5,none⟩ (.slice b1 ((Qb a1 a0).f5).length b2))):=⟨zzh3⟩
             (try clear a3)
             (try clear a4)
             (try clear HB);generalize ((((((E0.setCell ⟨a2,0,none⟩ (.int .i64 ((Qb a1 a0).f0))).setCell ⟨a2,1,none⟩ (.int .i64 ((Qb a1 a0).f1))).setCell ⟨a2,2,none⟩ (.bool ((Qb a1 a0).f2))).setCell ⟨a2,3,none⟩ (.slice a6 ((Qb a1 a0).f3).length a7)).setCell ⟨a2,4,none⟩ (.bool ((Qb a1 a0).f4))).setCell ⟨a2,5,none⟩ (.slice b1 ((Qb a1 a0).f5).length b2))=L9 at b5 b6 b7 ⊢;have a3:=b5;have a4:=b6;have HB:=b7;clear b5 b6 b7;have b5:=zzm (zzg a3.out);have b6:=zzm (zzg a4.out);have b7:=zzm (zzc HB.out);clear a3 a4 HB;have a3:=b5;have a4:=b6;have HB:=b7;clear b5 b6 b7;refine start_ (n:=19) (S:=fun w'=>w'.cell? ⟨a2,0,none⟩=some (.int .i64 ((Qb a1 a0).f0))∧w'.cell? ⟨a2,1,none⟩=some (.int .i64 ((Qb a1 a0).f1))∧w'.cell? ⟨a2,2,none⟩=some (.bool ((Qb a1 a0).f2))∧w'.cell? ⟨a2,3,none⟩=some (.slice a6 ((Qb a1 a0).f3).length a7)∧w'.cell? ⟨a2,4,none⟩=some (.bool ((Qb a1 a0).f4))∧w'.cell? ⟨a2,5,none⟩=some (.slice b1 ((Qb a1 a0).f5).length b2)) (ds:=[]) (zzB 19 0) (by kernel_rfl) rfl rfl ⟨(zzk a4.out 0).trans rfl,(zzk a4.out 1).trans rfl,(zzk a4.out 2).trans rfl,(zzk a4.out 3).trans rfl,(zzk a4.out 4).trans rfl,(zzk a4.out 5).trans rfl⟩ (fun d1=>?_);refine with_tabW Qc.tab11 Qc.bits11 (fun a8 h6=>?_);generalize L9.drew=O0 at a3 a4 HB d1 ⊢;refine zzT 0 59 19 1 a8 h6 d1 ?_
             refine one_ (i:=1) (N:=some 60) (zzB 19 3) rfl rfl (one_of a8.out (by kernel_rfl)) (by decide) (fun K hK=>?_);refine goes_ Try.func50 (by kernel_rfl) rfl #[.agg #[.int .i64 ((Qb a1 a0).f0),.int .i64 ((Qb a1 a0).f1),.bool ((Qb a1 a0).f2),.slice a6 ((Qb a1 a0).f3).length a7,.bool ((Qb a1 a0).f4),.slice b1 ((Qb a1 a0).f5).length b2]] (by rfl) rfl rfl zzM2 ?_;with_reducible refine (Rb.calls k3 ((Qb a1 a0).f0) ((Qb a1 a0).f1) ((Qb a1 a0).f2) _ _ ((Qb a1 a0).f3) ((Qb a1 a0).f4) _ _ ((Qb a1 a0).f5) true _ ?side1 ?side2 ?side3 ?side4 C4.out).mono ?_
             (case side1=>exact zzcb g1 HB)
             (case side2=>exact g2.out)
             (case side3=>exact zzcb g3 HB)
             (case side4=>exact g4.out);rintro e O1 ⟨rfl,hb⟩;refine ⟨_,rfl,?_⟩;have b5:=zzm (zzh (g:=b0) (o:=.cells #[.bool c9,.bool c0,.int .i64 b4,.int .i64 b8,.int .i64 b9,.slice (some a9) a1.length d0] 39 (0,0)) (zzE a3.out) hb);have b6:=zzm (zzh (g:=a2) (o:=.cells #[.int .i64 ((Qb a1 a0).f0),.int .i64 ((Qb a1 a0).f1),.bool ((Qb a1 a0).f2),.slice a6 ((Qb a1 a0).f3).length a7,.bool ((Qb a1 a0).f4),.slice b1 ((Qb a1 a0).f5).length b2] 47 (0,0)) (zzE a4.out) hb);have b7:=zzm (zzp zzh2 hb);clear a3 a4 HB;have a3:=b5;have a4:=b6;have HB:=b7;clear b5 b6 b7
             (try clear hb)
             (try clear hb2)
             (try clear hk)
             (try clear hi);refine hK.out _ _ ⟨(zzk a4.out 0).trans rfl,(zzk a4.out 1).trans rfl,(zzk a4.out 2).trans rfl,(zzk a4.out 3).trans rfl,(zzk a4.out 4).trans rfl,(zzk a4.out 5).trans rfl⟩ (fun d1=>?_);clear hK K;refine zzO 60 ?_
             refine zzP 2 61 19 7 a8 ?_
             refine zzP 3 62 19 15 a8 ?_
             refine zzP 4 63 19 31 a8 ?_
             refine zzP 5 64 19 63 a8 ?_
             refine zzP 6 65 19 127 a8 ?_
             refine zzU 7 66 19 255 a8 ?_
             refine zzU 8 67 19 511 a8 ?_
             refine zzU 9 68 19 1023 a8 ?_
             refine zzU 10 69 19 2047 a8 ?_
             refine zzU 11 70 19 4095 a8 ?_
             refine zzU 12 71 19 8191 a8 ?_
             refine zzU 13 72 19 16383 a8 ?_
             refine zzU 14 73 19 32767 a8 ?_
             refine zzU 15 74 19 65535 a8 ?_
             refine zzU 16 75 19 131071 a8 ?_
             refine zzP 17 76 19 262143 a8 ?_
             refine zzP 18 77 19 524287 a8 ?_
             refine done_ (done_of a8.out (by kernel_rfl)) ?_;try go_wp2
             go_roundg k3
             case measure=>have:=HJ1.out;have:=HJ22.out;have:=HK3.out;omega
             case rel=>exact ⟨(wrap64 (a0+1)),(by first|rfl|(simp;done)|(simp [*];done)),H',⟨by have:=HJ1.out;have:=HJ22.out;have:=HK3.out;omega⟩,⟨zzE a3.out⟩,⟨zzh3⟩⟩
           ·
            replace D5:=Bool.eq_false_iff.mpr D5;subst D5;replace H:=zzIf H;obtain rfl:=Option.some.inj H;have e9 : 0≤(a0:Int):=zzt;have g0:a0 < (a1.length:Int):=zzt;obtain ⟨a9,a6,a7,b1,b2,j5,d2,d3,d4,d5,d6,d7,d8,d9,e0,e1⟩:=Qs j4.out a0 e9 g0;cases j5;replace d2:=zzx HB.out d2;replace d3:=zzx HB.out d3;replace d4:=zzx HB.out d4;replace d5:=zzx HB.out d5;replace d6:=zzx HB.out d6;replace d7:=zzx HB.out d7;have g1:=zzm d9;have g2:=zzm d8;clear d9 d8;have g3:=zzm e1;have g4:=zzm e0;clear e1 e0;replace e9:=eq_true e9;replace g0:=eq_true g0;try go_wp2_with (first|((with_reducible refine gate_dst (N:=4) rfl ?_);(try (refine gate_guard (by rfl) ?_;dsimp only));refine box_event ?hg (N:=4) ?hd (cs:=#[.int .i64 0,.int .i64 0,.bool false,.slice none 0 0,.bool false,.slice none 0 0]) (t:=47) ?hr ?_;(case hd=>rfl);(case hg=>rfl);(case hr=>first|(go_simp;done)|(go_simp;rfl));intro a2 hg E1 hbox hb;have b5:=zzm (zzh (g:=b0) (o:=.cells #[.bool c9,.bool c0,.int .i64 b4,.int .i64 b8,.int .i64 b9,.slice (some a9) a1.length d0] 39 (0,0)) (zzE a3.out) hb);have b6:=zzm (zzp zzh2 hb);have b7:=zzm (hbox);have g5:=zzm ((by rw [hg];exact (zzo zzh2):w.heap.size≤a2));have h8:=zzm ((by rw [hg];exact (zzo zzh2):w.heap.size≤a2));have h9:=zzm ((by rw [hg];exact Nat.ne_of_lt (blk_lt (g:=b0) (o:=.cells #[.bool c9,.bool c0,.int .i64 b4,.int .i64 b8,.int .i64 b9,.slice (some a9) a1.length d0] 39 (0,0)) (zzE a3.out)):b0≠a2));have j3:=zzm ((by rw [hg];exact Nat.ne_of_gt (blk_lt (g:=b0) (o:=.cells #[.bool c9,.bool c0,.int .i64 b4,.int .i64 b8,.int .i64 b9,.slice (some a9) a1.length d0] 39 (0,0)) (zzE a3.out)):a2≠b0));clear a3 HB;have a3:=b5;have HB:=b6;have a4:=b7;have C0:=g5;have C1:=h8;have a5:=h9;have e2:=j3;clear b5 b6 b7 g5 h8 h9 j3 hb hbox hg;have N4:=e2.out;have N5:=a5.out;obtain ⟨K2,K3,K4,K5,K6,K7,K8,K9,L0,L1,L2,L3⟩:=zzc6 a4.out))
            have b5:Aside0 (((((((E1.setCell ⟨a2,0,none⟩ (.int .i64 ((Qb a1 a0).f0))).setCell ⟨a2,1,none⟩ (.int .i64 ((Qb a1 a0).f1))).setCell ⟨a2,2,none⟩ (.bool ((Qb a1 a0).f2))).setCell ⟨a2,3,none⟩ (.slice a6 ((Qb a1 a0).f3).length a7)).setCell ⟨a2,4,none⟩ (.bool ((Qb a1 a0).f4))).setCell ⟨a2,5,none⟩ (.slice b1 ((Qb a1 a0).f5).length b2)).heap[b0]? = some (.cells #[.bool c9,.bool c0,.int .i64 b4,.int .i64 b8,.int .i64 b9,.slice (some a9) a1.length d0] 39 (0,0))):=⟨by (with_reducible repeat (first|apply zzf|apply zzg|apply zze));refine zzj ?_ a5.out _;(with_reducible repeat (first|apply zzf|apply zzg|apply zze));refine zzj ?_ a5.out _;(with_reducible repeat (first|apply zzf|apply zzg|apply zze));refine zzj ?_ a5.out _;(with_reducible repeat (first|apply zzf|apply zzg|apply zze));refine zzj ?_ a5.out _;(with_reducible repeat (first|apply zzf|apply zzg|apply zze));refine zzj ?_ a5.out _;(with_reducible repeat (first|apply zzf|apply zzg|apply zze));refine zzj ?_ a5.out _;(with_reducible repeat (first|apply zzf|apply zzg|apply zze));exact a3.out⟩;have b6:Aside0 (((((((E1.setCell ⟨a2,0,none⟩ (.int .i64 ((Qb a1 a0).f0))).setCell ⟨a2,1,none⟩ (.int .i64 ((Qb a1 a0).f1))).setCell ⟨a2,2,none⟩ (.bool ((Qb a1 a0).f2))).setCell ⟨a2,3,none⟩ (.slice a6 ((Qb a1 a0).f3).length a7)).setCell ⟨a2,4,none⟩ (.bool ((Qb a1 a0).f4))).setCell ⟨a2,5,none⟩ (.slice b1 ((Qb a1 a0).f5).length b2)).heap[a2]? = some (.cells #[.int .i64 ((Qb a1 a0).f0),.int .i64 ((Qb a1 a0).f1),.bool ((Qb a1 a0).f2),.slice a6 ((Qb a1 a0).f3).length a7,.bool ((Qb a1 a0).f4),.slice b1 ((Qb a1 a0).f5).length b2] 47 (0,0))):=⟨by (with_reducible repeat (first|apply zzf|apply zzg|apply zze));refine zzi (cs:=#[.int .i64 ((Qb a1 a0).f0),.int .i64 ((Qb a1 a0).f1),.bool ((Qb a1 a0).f2),.slice a6 ((Qb a1 a0).f3).length a7,.bool ((Qb a1 a0).f4),.slice none 0 0]) ?_ 5 _ rfl;refine zzi (cs:=#[.int .i64 ((Qb a1 a0).f0),.int .i64 ((Qb a1 a0).f1),.bool ((Qb a1 a0).f2),.slice a6 ((Qb a1 a0).f3).length a7,.bool false,.slice none 0 0]) ?_ 4 _ rfl;refine zzi (cs:=#[.int .i64 ((Qb a1 a0).f0),.int .i64 ((Qb a1 a0).f1),.bool ((Qb a1 a0).f2),.slice none 0 0,.bool false,.slice none 0 0]) ?_ 3 _ rfl;refine zzi (cs:=#[.int .i64 ((Qb a1 a0).f0),.int .i64 ((Qb a1 a0).f1),.bool false,.slice none 0 0,.bool false,.slice none 0 0]) ?_ 2 _ rfl;refine zzi (cs:=#[.int .i64 ((Qb a1 a0).f0),.int .i64 0,.bool false,.slice none 0 0,.bool false,.slice none 0 0]) ?_ 1 _ rfl;refine zzi (cs:=#[.int .i64 0,.int .i64 0,.bool false,.slice none 0 0,.bool false,.slice none 0 0]) ?_ 0 _ rfl;(with_reducible repeat (first|apply zzf|apply zzg|apply zze));exact a4.out⟩;have b7:Aside0 (Below w.heap.size w ((((((E1.setCell ⟨a2,0,none⟩ (.int .i64 ((Qb a1 a0).f0))).setCell ⟨a2,1,none⟩ (.int .i64 ((Qb a1 a0).f1))).setCell ⟨a2,2,none⟩ (.bool ((Qb a1 a0).f2))).setCell ⟨a2,3,none⟩ (.slice a6 ((Qb a1 a0).f3).length a7)).setCell ⟨a2,4,none⟩ (.bool ((Qb a1 a0).f4))).setCell ⟨a2,5,none⟩ (.slice b1 ((Qb a1 a0).f5).length b2))):=⟨zzh3⟩
            (try clear a3)
            (try clear a4)
            (try clear HB);generalize ((((((E1.setCell ⟨a2,0,none⟩ (.int .i64 ((Qb a1 a0).f0))).setCell ⟨a2,1,none⟩ (.int .i64 ((Qb a1 a0).f1))).setCell ⟨a2,2,none⟩ (.bool ((Qb a1 a0).f2))).setCell ⟨a2,3,none⟩ (.slice a6 ((Qb a1 a0).f3).length a7)).setCell ⟨a2,4,none⟩ (.bool ((Qb a1 a0).f4))).setCell ⟨a2,5,none⟩ (.slice b1 ((Qb a1 a0).f5).length b2))=M0 at b5 b6 b7 ⊢;have a3:=b5;have a4:=b6;have HB:=b7;clear b5 b6 b7;have b5:=zzm (zzg a3.out);have b6:=zzm (zzg a4.out);have b7:=zzm (zzc HB.out);clear a3 a4 HB;have a3:=b5;have a4:=b6;have HB:=b7;clear b5 b6 b7;refine start_ (n:=19) (S:=fun w'=>w'.cell? ⟨a2,0,none⟩=some (.int .i64 ((Qb a1 a0).f0))∧w'.cell? ⟨a2,1,none⟩=some (.int .i64 ((Qb a1 a0).f1))∧w'.cell? ⟨a2,2,none⟩=some (.bool ((Qb a1 a0).f2))∧w'.cell? ⟨a2,3,none⟩=some (.slice a6 ((Qb a1 a0).f3).length a7)∧w'.cell? ⟨a2,4,none⟩=some (.bool ((Qb a1 a0).f4))∧w'.cell? ⟨a2,5,none⟩=some (.slice b1 ((Qb a1 a0).f5).length b2)) (ds:=[]) (zzB 19 0) (by kernel_rfl) rfl rfl ⟨(zzk a4.out 0).trans rfl,(zzk a4.out 1).trans rfl,(zzk a4.out 2).trans rfl,(zzk a4.out 3).trans rfl,(zzk a4.out 4).trans rfl,(zzk a4.out 5).trans rfl⟩ (fun d1=>?_);refine with_tabW Qc.tab11 Qc.bits11 (fun a8 h6=>?_);generalize M0.drew=O2 at a3 a4 HB d1 ⊢;refine zzT 0 59 19 1 a8 h6 d1 ?_
            refine one_ (i:=1) (N:=some 60) (zzB 19 3) rfl rfl (one_of a8.out (by kernel_rfl)) (by decide) (fun K hK=>?_);refine goes_ Try.func50 (by kernel_rfl) rfl #[.agg #[.int .i64 ((Qb a1 a0).f0),.int .i64 ((Qb a1 a0).f1),.bool ((Qb a1 a0).f2),.slice a6 ((Qb a1 a0).f3).length a7,.bool ((Qb a1 a0).f4),.slice b1 ((Qb a1 a0).f5).length b2]] (by rfl) rfl rfl zzM2 ?_;with_reducible refine (Rb.calls k3 ((Qb a1 a0).f0) ((Qb a1 a0).f1) ((Qb a1 a0).f2) _ _ ((Qb a1 a0).f3) ((Qb a1 a0).f4) _ _ ((Qb a1 a0).f5) false _ ?side1 ?side2 ?side3 ?side4 C4.out).mono ?_
            (case side1=>exact zzcb g1 HB)
            (case side2=>exact g2.out)
            (case side3=>exact zzcb g3 HB)
            (case side4=>exact g4.out);rintro e O3 ⟨rfl,hb⟩;refine ⟨_,rfl,?_⟩;have b5:=zzm (zzh (g:=b0) (o:=.cells #[.bool c9,.bool c0,.int .i64 b4,.int .i64 b8,.int .i64 b9,.slice (some a9) a1.length d0] 39 (0,0)) (zzE a3.out) hb);have b6:=zzm (zzh (g:=a2) (o:=.cells #[.int .i64 ((Qb a1 a0).f0),.int .i64 ((Qb a1 a0).f1),.bool ((Qb a1 a0).f2),.slice a6 ((Qb a1 a0).f3).length a7,.bool ((Qb a1 a0).f4),.slice b1 ((Qb a1 a0).f5).length b2] 47 (0,0)) (zzE a4.out) hb);have b7:=zzm (zzp zzh2 hb);clear a3 a4 HB;have a3:=b5;have a4:=b6;have HB:=b7;clear b5 b6 b7
            (try clear hb)
            (try clear hb2)
            (try clear hk)
            (try clear hi);refine hK.out _ _ ⟨(zzk a4.out 0).trans rfl,(zzk a4.out 1).trans rfl,(zzk a4.out 2).trans rfl,(zzk a4.out 3).trans rfl,(zzk a4.out 4).trans rfl,(zzk a4.out 5).trans rfl⟩ (fun d1=>?_);clear hK K;refine zzO 60 ?_
            refine zzP 2 61 19 7 a8 ?_
            refine zzP 3 62 19 15 a8 ?_
            refine zzU 4 63 19 31 a8 ?_
            refine zzU 5 64 19 63 a8 ?_
            refine zzU 6 65 19 127 a8 ?_
            refine zzU 7 66 19 255 a8 ?_
            refine zzU 8 67 19 511 a8 ?_
            refine zzU 9 68 19 1023 a8 ?_
            refine zzU 10 69 19 2047 a8 ?_
            refine zzU 11 70 19 4095 a8 ?_
            refine zzU 12 71 19 8191 a8 ?_
            refine zzU 13 72 19 16383 a8 ?_
            refine zzU 14 73 19 32767 a8 ?_
            refine zzU 15 74 19 65535 a8 ?_
            refine zzU 16 75 19 131071 a8 ?_
            refine zzU 17 76 19 262143 a8 ?_
            refine zzP 18 77 19 524287 a8 ?_
            refine done_ (done_of a8.out (by kernel_rfl)) ?_;try go_wp2
            go_ret;exact ⟨zzR,zzh3⟩
          ·
           rw [if_neg D4] at H;exact absurd H (by simp)
         ·
          rw [if_neg D3] at H;exact absurd H (by simp)
        ·
         rw [if_neg B0] at H;have G0:decide (a0 < (a1.length:Int))=false:=decide_eq_false B0;clear B0;obtain rfl:=Option.some.inj H;go_wp2;go_ret;exact ⟨zzR,zzh3⟩

set_option linter.unusedVariables false
set_option linter.unusedSimpArgs false
def Rh.f (a0_0:Bool) (a0_1:Bool) (a0_2:Int) (a0_3:Int) (a0_4:Int) (l0_5:List (S47)):Option (Int):=if 0≤(wrap64 ((l0_5.length:Int) - 1)) then (if (wrap64 ((l0_5.length:Int) - 1)) < (l0_5.length:Int) then (some ((Qb l0_5 (wrap64 ((l0_5.length:Int) - 1))).f0)) else (none)) else (none)
set_option maxHeartbeats 8000000 in
theorem Rh.calls (b2:Bool) (b3:Bool) (b4:Int) (b5:Int) (b6:Int) (b7:Option Addr) (b8:Nat) (a0:List (S47)) (r:Int) (w:World) (c1:Kd.C k47 w b7 a0.length a0) (c2:a0.length≤b8) (h:Rh.f b2 b3 b4 b5 b6 a0=some r) :
  Calls Try.prog 32 #[.agg #[.bool b2,.bool b3,.int .i64 b4,.int .i64 b5,.int .i64 b6,.slice b7 a0.length b8]] w fun e w'=>e = .returned (.int .i64 r)∧Below w.heap.size w w':=by
 have hu39:=Try.underlying39;have c6:=zzm c1;have g3:=zzm c2;clear c1 c2;have HB:=zzm (Below.refl w.heap.size w);have H:(if 0≤(wrap64 ((a0.length:Int) - 1)) then (if (wrap64 ((a0.length:Int) - 1)) < (a0.length:Int) then (some ((Qb a0 (wrap64 ((a0.length:Int) - 1))).f0)) else (none)) else (none))=some r:=h;clear h;obtain ⟨a1,hji2⟩:∃ j_:Int,(wrap64 ((a0.length:Int) - 1))=j_:=⟨_,rfl⟩;replace H:(if 0≤(a1) then (if (a1) < (a0.length:Int) then (some ((Qb a0 (a1)).f0)) else (none)) else (none))=some r:=by first|(rw [hji2] at H;exact H)|(simp only [hji2] at H ⊢;exact H)
 have hji2w:(IntKind.i64.wrap ((a0.length:Int) - 1))=a1:=(i64_w _).trans hji2;by_cases c3 : 0≤(a1)
 ·
  rw [if_pos c3] at H;have g7:decide (0≤(a1))=true:=decide_eq_true c3;clear c3;by_cases c4:(a1) < (a0.length:Int)
  ·
   rw [if_pos c4] at H;have g8:decide ((a1) < (a0.length:Int))=true:=decide_eq_true c4;clear c4;obtain rfl:=Option.some.inj H;go_enter Try.func32,Try.ntmps32;go_wp2_with (first|((with_reducible refine gate_dst (N:=1) rfl ?_);refine box_event ?hg (N:=1) ?hd (cs:=#[.bool b2,.bool b3,.int .i64 b4,.int .i64 b5,.int .i64 b6,.slice b7 a0.length b8]) (t:=39) ?hr ?_;(case hd=>rfl);(case hg=>rfl);(case hr=>first|(go_simp;done)|(go_simp;rfl));intro c5 hg w5 hbox hb;have c8:=zzm (zzp zzh1 hb);have c9:=zzm (hbox);have d0:=zzm ((by rw [hg];exact (zzo zzh1):w.heap.size≤c5));have d1:=zzm ((by rw [hg];exact (zzo zzh1):w.heap.size≤c5));clear HB;have HB:=c8;have c7:=c9;have g4:=d0;have g5:=d1;clear c8 c9 d0 d1 hb hbox hg;obtain ⟨d7,d8,d9,e0,e1,e2,e3,e4,e5,e6,e7,e8⟩:=zzc6 c7.out;have b9 : 0≤((a1):Int):=zzt;have c0:(a1) < (a0.length:Int):=zzt;obtain ⟨g6,e9,g0,g1,g2,d2,a2,a3,a4,a5,a6,a7,a8,a9,b0,b1⟩:=Qs c6.out (a1) b9 c0;cases d2;replace a2:=zzx HB.out a2;replace a3:=zzx HB.out a3;replace a4:=zzx HB.out a4;replace a5:=zzx HB.out a5;replace a6:=zzx HB.out a6;replace a7:=zzx HB.out a7;have d3:=zzm a9;have d4:=zzm a8;clear a9 a8;have d5:=zzm b1;have d6:=zzm b0;clear b1 b0;replace b9:=eq_true b9;replace c0:=eq_true c0));go_ret;exact ⟨by first|rfl|(simp [errW_none,errW_some] <;> rfl)|(simp only [← hji2];first|rfl|(simp [errW_none,errW_some] <;> rfl))|(simp [*,errW_none,errW_some] <;> rfl),zzh3⟩
  ·
   rw [if_neg c4] at H;exact absurd H (by simp)
 ·
  rw [if_neg c3] at H;exact absurd H (by simp)
def Re.f (a0_0:Bool) (a0_1:Bool) (a0_2:Int) (a0_3:Int) (a0_4:Int) (l0_5:List (S47)):Option (Int):=if 0 < (l0_5.length:Int) then (some ((Qb l0_5 0).f0)) else (none)
set_option maxHeartbeats 8000000 in
theorem Re.calls (b1:Bool) (b2:Bool) (b3:Int) (b4:Int) (b5:Int) (b6:Option Addr) (b7:Nat) (a0:List (S47)) (r:Int) (w:World) (c0:Kd.C k47 w b6 a0.length a0) (c1:a0.length≤b7) (h:Re.f b1 b2 b3 b4 b5 a0=some r) :
  Calls Try.prog 33 #[.agg #[.bool b1,.bool b2,.int .i64 b3,.int .i64 b4,.int .i64 b5,.slice b6 a0.length b7]] w fun e w'=>e = .returned (.int .i64 r)∧Below w.heap.size w w':=by
 have hu39:=Try.underlying39;have c4:=zzm c0;have g1:=zzm c1;clear c0 c1;have HB:=zzm (Below.refl w.heap.size w);have H:(if 0 < (a0.length:Int) then (some ((Qb a0 0).f0)) else (none))=some r:=h;clear h;by_cases c2 : 0 < (a0.length:Int)
 ·
  rw [if_pos c2] at H;have g6:decide (0 < (a0.length:Int))=true:=decide_eq_true c2;have g7:decide (0 < a0.length)=true:=decide_eq_true (by omega);clear c2;obtain rfl:=Option.some.inj H;go_enter Try.func33,Try.ntmps33;go_wp2_with (first|((with_reducible refine gate_dst (N:=1) rfl ?_);refine box_event ?hg (N:=1) ?hd (cs:=#[.bool b1,.bool b2,.int .i64 b3,.int .i64 b4,.int .i64 b5,.slice b6 a0.length b7]) (t:=39) ?hr ?_;(case hd=>rfl);(case hg=>rfl);(case hr=>first|(go_simp;done)|(go_simp;rfl));intro c3 hg w3 hbox hb;have c6:=zzm (zzp zzh1 hb);have c7:=zzm (hbox);have c8:=zzm ((by rw [hg];exact (zzo zzh1):w.heap.size≤c3));have c9:=zzm ((by rw [hg];exact (zzo zzh1):w.heap.size≤c3));clear HB;have HB:=c6;have c5:=c7;have g2:=c8;have g3:=c9;clear c6 c7 c8 c9 hb hbox hg;obtain ⟨d5,d6,d7,d8,d9,e0,e1,e2,e3,e4,e5,e6⟩:=zzc6 c5.out;have b8 : 0≤(0:Int):=(by omega);have b9 : 0 < (a0.length:Int):=zzt;obtain ⟨g4,e7,e8,e9,g0,d0,a1,a2,a3,a4,a5,a6,a7,a8,a9,b0⟩:=Qs c4.out 0 b8 b9;cases d0;have g5:(0 < a0.length)=True:=eq_true (by omega);(try rw [show ((0:Int)).toNat=0 from rfl] at a1);(try rw [show 0 * 6=0 from rfl] at a1);(try rw [Addr.add_zero'] at a1);(try rw [show ((0:Int)).toNat=0 from rfl] at a2);(try rw [show 0 * 6=0 from rfl] at a2);(try rw [Addr.add_zero'] at a2);(try rw [show ((0:Int)).toNat=0 from rfl] at a3);(try rw [show 0 * 6=0 from rfl] at a3);(try rw [Addr.add_zero'] at a3);(try rw [show ((0:Int)).toNat=0 from rfl] at a4);(try rw [show 0 * 6=0 from rfl] at a4);(try rw [Addr.add_zero'] at a4);(try rw [show ((0:Int)).toNat=0 from rfl] at a5);(try rw [show 0 * 6=0 from rfl] at a5);(try rw [Addr.add_zero'] at a5);(try rw [show ((0:Int)).toNat=0 from rfl] at a6);(try rw [show 0 * 6=0 from rfl] at a6);(try rw [Addr.add_zero'] at a6);replace a1:=zzx HB.out a1;replace a2:=zzx HB.out a2;replace a3:=zzx HB.out a3;replace a4:=zzx HB.out a4;replace a5:=zzx HB.out a5;replace a6:=zzx HB.out a6;have d1:=zzm a8;have d2:=zzm a7;clear a8 a7;have d3:=zzm b0;have d4:=zzm a9;clear b0 a9;replace b8:=eq_true b8;replace b9:=eq_true b9));go_ret;exact ⟨zzR,zzh3⟩
 ·
  rw [if_neg c2] at H;exact absurd H (by simp)

set_option linter.unusedVariables false
set_option linter.unusedSimpArgs false
def Qi.l0:Nat→List (S39)→List (S39)→Int→Int→Option (Bool)
 | 0,_,_,_,_=>none
 | k+1,x0,x8,x9,x10=>if x10 < x9 then (if 0≤x10 then (if x10 < (x8.length:Int) then ((Qc.f k ((Qa x8 x10).f0) ((Qa x8 x10).f1) ((Qa x8 x10).f2) ((Qa x8 x10).f3) ((Qa x8 x10).f4) ((Qa x8 x10).f5)).bind fun t272=>(if t272=true then (if x10 > 0 then (if 0≤(wrap64 (x10 - 1)) then (if (wrap64 (x10 - 1)) < (x0.length:Int) then ((Rh.f ((Qa x0 (wrap64 (x10 - 1))).f0) ((Qa x0 (wrap64 (x10 - 1))).f1) ((Qa x0 (wrap64 (x10 - 1))).f2) ((Qa x0 (wrap64 (x10 - 1))).f3) ((Qa x0 (wrap64 (x10 - 1))).f4) ((Qa x0 (wrap64 (x10 - 1))).f5)).bind fun t274=>((Re.f ((Qa x8 x10).f0) ((Qa x8 x10).f1) ((Qa x8 x10).f2) ((Qa x8 x10).f3) ((Qa x8 x10).f4) ((Qa x8 x10).f5)).bind fun t275=>(if t274 ≥ t275 then (some false) else (Qi.l0 k x0 x8 x9 (wrap64 (x10+1)))))) else (none)) else (none)) else (Qi.l0 k x0 x8 x9 (wrap64 (x10+1)))) else (some false))) else (none)) else (none)) else (some true)
def Qi.f (k:Nat) (l0:List (S39)):Option (Bool):=if (l0.length:Int) > 8 then (some false) else (Qi.l0 k l0 l0 (l0.length:Int) 0)
def Qi.T6:Bool×List (List Nat×List Nat):=(true,[([],[]),([0],[0]),([1],[1]),([2,1],[2]),([3],[3]),([4,3],[3,4]),([5,3,3],[3,5]),([6],[6]),([6],[6]),([8,6],[6,8]),([7,9,6],[6,7,9]),([10,6],[6,10]),([11,6,6],[6,11]),([6],[6]),([13,12,6],[6,13]),([12,14,6],[6,12,14]),([6,15,3],[3,6,15]),([3,16],[3,16])])
def Qi.B6:List Nat:=[0,1,3,7,15,31,63,127,127,383,1023,2047,4095,127,16383,32767,65535,131071]
theorem Qi.tab6:rtab .any (opsOf Try.f15 6)=Qi.T6:=by kernel_rfl
theorem Qi.bits6:waitsOk Qi.T6.2 Qi.B6=true:=by kernel_rfl
set_option maxHeartbeats 8000000 in
theorem Qi.calls (k:Nat) (A0:Option Addr) (c0:Nat) (l0:List (S39)) (r:Bool) (w:World) (j5:Kd.C k39 w A0 l0.length l0) (j6:l0.length≤c0) (h:Qi.f k l0=some r) :
  Calls Try.prog 15 #[.slice A0 l0.length c0] w fun e w'=>e = .returned (.bool r)∧Below w.heap.size w w':=by
 have hu39:=Try.underlying39;have g7:=zzm j5;have q3:=zzm j6;clear j5 j6;have HB:=zzm (Below.refl w.heap.size w);have H:(if (l0.length:Int) > 8 then (some false) else (Qi.l0 k l0 l0 (l0.length:Int) 0))=some r:=h;clear h;by_cases c2:(l0.length:Int) > 8
 ·
  rw [if_pos c2] at H;have h5:decide (8 < (l0.length:Int))=true:=decide_eq_true c2;have h6:decide (8 < l0.length)=true:=decide_eq_true (by omega);clear c2;obtain rfl:=Option.some.inj H;go_enter Try.func15,Try.ntmps15;go_wp2;go_ret;exact ⟨zzR,zzh1⟩
 ·
  rw [if_neg c2] at H;have h5:decide (8 < (l0.length:Int))=false:=decide_eq_false c2;have h6:decide (8 < l0.length)=false:=decide_eq_false (by omega);clear c2;have H':=zzm H;clear H;go_enter Try.func15,Try.ntmps15;go_wp2;go_loopg [10] k (fun kq p4 w'=>∃ (a0:Int),p4 = .int .i64 a0∧Aside0 (Qi.l0 kq l0 l0 (l0.length:Int) a0=some r)∧Aside0 (kq≤k)∧Aside0 (Below w.heap.size w w'))
  case atStart=>exact ⟨(0),(by first|rfl|(simp;done)|(simp [*];done)),H',⟨Nat.le_refl _⟩,⟨zzh1⟩⟩
  case round=>
   clear H';try clear c1
   try clear c2
   try clear h5
   try clear h6
   try clear p2
   obtain ⟨a0,rfl,HA,HK1,HB⟩:=hrel;cases gk with
   | zero=>exact absurd HA.out (by simp [Qi.l0])
   | succ k1=>
    have H:=HA.out;clear HA;simp only [Qi.l0] at H;by_cases c3:a0 < (l0.length:Int)
    ·
     rw [if_pos c3] at H;have j9:decide (a0 < (l0.length:Int))=true:=decide_eq_true c3;clear c3;by_cases c4 : 0≤a0
     ·
      rw [if_pos c4] at H;have q1:decide (0≤a0)=true:=decide_eq_true c4;clear c4;by_cases c5:a0 < (l0.length:Int)
      ·
       rw [if_pos c5] at H;have q2:decide (a0 < (l0.length:Int))=true:=decide_eq_true c5;clear c5;obtain ⟨k0,A6,H⟩:=zzG H;by_cases c7:k0=true
       ·
        subst c7;replace H:=zzIt H;by_cases c8:a0 > 0
        ·
         rw [if_pos c8] at H;have k2:decide (0 < a0)=true:=decide_eq_true c8;clear c8;obtain ⟨a4,hji9⟩:∃ j_:Int,(wrap64 (a0 - 1))=j_:=⟨_,rfl⟩;replace H:(if 0≤(a4) then (if (a4) < (l0.length:Int) then ((Rh.f ((Qa l0 (a4)).f0) ((Qa l0 (a4)).f1) ((Qa l0 (a4)).f2) ((Qa l0 (a4)).f3) ((Qa l0 (a4)).f4) ((Qa l0 (a4)).f5)).bind fun g1=>((Re.f ((Qa l0 a0).f0) ((Qa l0 a0).f1) ((Qa l0 a0).f2) ((Qa l0 a0).f3) ((Qa l0 a0).f4) ((Qa l0 a0).f5)).bind fun g2=>(if g1 ≥ g2 then (some false) else (Qi.l0 k1 l0 l0 (l0.length:Int) (wrap64 (a0+1)))))) else (none)) else (none))=some r:=by first|(rw [hji9] at H;exact H)|(simp only [hji9] at H ⊢;exact H)
         (try rw [hji9] at A6);have hji9w:(IntKind.i64.wrap (a0 - 1))=a4:=(i64_w _).trans hji9;by_cases h3 : 0≤(a4)
         ·
          rw [if_pos h3] at H;have p9:decide (0≤(a4))=true:=decide_eq_true h3;clear h3;by_cases h4:(a4) < (l0.length:Int)
          ·
           rw [if_pos h4] at H;have q0:decide ((a4) < (l0.length:Int))=true:=decide_eq_true h4;clear h4;obtain ⟨g1,j7,H⟩:=zzG H;obtain ⟨g2,j8,H⟩:=zzG H;by_cases g8:g1 ≥ g2
           ·
            rw [if_pos g8] at H;have j4:decide (g2≤g1)=true:=decide_eq_true g8;clear g8;obtain rfl:=Option.some.inj H;have e1 : 0≤(a0:Int):=zzt;have e2:a0 < (l0.length:Int):=zzt;obtain ⟨a9,a5,a6,g3,b1,b2,b3,b4,b5,b6,b7,b8⟩:=Qp g7.out a0 e1 e2;cases g3;replace b1:=zzx HB.out b1;replace b2:=zzx HB.out b2;replace b3:=zzx HB.out b3;replace b4:=zzx HB.out b4;replace b5:=zzx HB.out b5;replace b6:=zzx HB.out b6;have b9:=zzm b8;have c6:=zzm b7;clear b8 b7;replace e1:=eq_true e1;replace e2:=eq_true e2;try go_wp2_with (first|((with_reducible refine gate_dst (N:=4) rfl ?_);refine box_event ?hg (N:=4) ?hd (cs:=#[.bool false,.bool false,.int .i64 0,.int .i64 0,.int .i64 0,.slice none 0 0]) (t:=39) ?hr ?_;(case hd=>rfl);(case hg=>rfl);(case hr=>first|(go_simp;done)|(go_simp;rfl));intro a2 hg h7 hbox hb;have a7:=zzm (zzp zzh1 hb);have a8:=zzm (hbox);have e6:=zzm ((by rw [hg];exact (zzo zzh1):w.heap.size≤a2));have e7:=zzm ((by rw [hg];exact (zzo zzh1):w.heap.size≤a2));clear HB;have HB:=a7;have a1:=a8;have g9:=e6;have h0:=e7;clear a7 a8 e6 e7 hb hbox hg;obtain ⟨k3,k4,k5,k6,k7,k8,k9,l2,l3,l4,l5,l6⟩:=zzc6 a1.out))
            have a7:Aside0 (((((((h7.setCell ⟨a2,0,none⟩ (.bool ((Qa l0 a0).f0))).setCell ⟨a2,1,none⟩ (.bool ((Qa l0 a0).f1))).setCell ⟨a2,2,none⟩ (.int .i64 ((Qa l0 a0).f2))).setCell ⟨a2,3,none⟩ (.int .i64 ((Qa l0 a0).f3))).setCell ⟨a2,4,none⟩ (.int .i64 ((Qa l0 a0).f4))).setCell ⟨a2,5,none⟩ (.slice a5 ((Qa l0 a0).f5).length a6)).heap[a2]? = some (.cells #[.bool ((Qa l0 a0).f0),.bool ((Qa l0 a0).f1),.int .i64 ((Qa l0 a0).f2),.int .i64 ((Qa l0 a0).f3),.int .i64 ((Qa l0 a0).f4),.slice a5 ((Qa l0 a0).f5).length a6] 39 (0,0))):=⟨by (with_reducible repeat (first|apply zzf|apply zzg|apply zze));refine zzi (cs:=#[.bool ((Qa l0 a0).f0),.bool ((Qa l0 a0).f1),.int .i64 ((Qa l0 a0).f2),.int .i64 ((Qa l0 a0).f3),.int .i64 ((Qa l0 a0).f4),.slice none 0 0]) ?_ 5 _ rfl;refine zzi (cs:=#[.bool ((Qa l0 a0).f0),.bool ((Qa l0 a0).f1),.int .i64 ((Qa l0 a0).f2),.int .i64 ((Qa l0 a0).f3),.int .i64 0,.slice none 0 0]) ?_ 4 _ rfl;refine zzi (cs:=#[.bool ((Qa l0 a0).f0),.bool ((Qa l0 a0).f1),.int .i64 ((Qa l0 a0).f2),.int .i64 0,.int .i64 0,.slice none 0 0]) ?_ 3 _ rfl;refine zzi (cs:=#[.bool ((Qa l0 a0).f0),.bool ((Qa l0 a0).f1),.int .i64 0,.int .i64 0,.int .i64 0,.slice none 0 0]) ?_ 2 _ rfl;refine zzi (cs:=#[.bool ((Qa l0 a0).f0),.bool false,.int .i64 0,.int .i64 0,.int .i64 0,.slice none 0 0]) ?_ 1 _ rfl;refine zzi (cs:=#[.bool false,.bool false,.int .i64 0,.int .i64 0,.int .i64 0,.slice none 0 0]) ?_ 0 _ rfl;(with_reducible repeat (first|apply zzf|apply zzg|apply zze));exact a1.out⟩;have a8:Aside0 (Below w.heap.size w ((((((h7.setCell ⟨a2,0,none⟩ (.bool ((Qa l0 a0).f0))).setCell ⟨a2,1,none⟩ (.bool ((Qa l0 a0).f1))).setCell ⟨a2,2,none⟩ (.int .i64 ((Qa l0 a0).f2))).setCell ⟨a2,3,none⟩ (.int .i64 ((Qa l0 a0).f3))).setCell ⟨a2,4,none⟩ (.int .i64 ((Qa l0 a0).f4))).setCell ⟨a2,5,none⟩ (.slice a5 ((Qa l0 a0).f5).length a6))):=⟨zzh3⟩
            (try clear a1)
            (try clear HB);generalize ((((((h7.setCell ⟨a2,0,none⟩ (.bool ((Qa l0 a0).f0))).setCell ⟨a2,1,none⟩ (.bool ((Qa l0 a0).f1))).setCell ⟨a2,2,none⟩ (.int .i64 ((Qa l0 a0).f2))).setCell ⟨a2,3,none⟩ (.int .i64 ((Qa l0 a0).f3))).setCell ⟨a2,4,none⟩ (.int .i64 ((Qa l0 a0).f4))).setCell ⟨a2,5,none⟩ (.slice a5 ((Qa l0 a0).f5).length a6))=p5 at a7 a8 ⊢;have a1:=a7;have HB:=a8;clear a7 a8;have a7:=zzm (zzg a1.out);have a8:=zzm (zzc HB.out);clear a1 HB;have a1:=a7;have HB:=a8;clear a7 a8;have g4 : 0≤((a4):Int):=zzt;have g5:(a4) < (l0.length:Int):=zzt;obtain ⟨h1,e8,e9,h2,c9,d0,d1,d2,d3,d4,e3,e4⟩:=Qp g7.out (a4) g4 g5;have d5:=d4;have d6:=d3;have d7:=d2;have d8:=d1;have d9:=d0;have e0:=c9;obtain rfl:a9=h1:=(by injection h2);replace c9:=zzx HB.out c9;replace d0:=zzx HB.out d0;replace d1:=zzx HB.out d1;replace d2:=zzx HB.out d2;replace d3:=zzx HB.out d3;replace d4:=zzx HB.out d4;have e5:=zzm e4;have g6:=zzm e3;clear e4 e3;replace g4:=eq_true g4;replace g5:=eq_true g5;refine start_ (n:=18) (S:=fun w'=>w'.cell? ⟨a2,0,none⟩=some (.bool ((Qa l0 a0).f0))∧w'.cell? ⟨a2,1,none⟩=some (.bool ((Qa l0 a0).f1))∧w'.cell? ⟨a2,2,none⟩=some (.int .i64 ((Qa l0 a0).f2))∧w'.cell? ⟨a2,3,none⟩=some (.int .i64 ((Qa l0 a0).f3))∧w'.cell? ⟨a2,4,none⟩=some (.int .i64 ((Qa l0 a0).f4))∧w'.cell? ⟨a2,5,none⟩=some (.slice a5 ((Qa l0 a0).f5).length a6)∧w'.cell? (a9.add (((a4)).toNat * 6))=some (.bool ((Qa l0 (a4)).f0))∧w'.cell? ⟨(a9.add (((a4)).toNat * 6)).block,(a9.add (((a4)).toNat * 6)).off+1,none⟩=some (.bool ((Qa l0 (a4)).f1))∧w'.cell? ⟨(a9.add (((a4)).toNat * 6)).block,(a9.add (((a4)).toNat * 6)).off+2,none⟩=some (.int .i64 ((Qa l0 (a4)).f2))∧w'.cell? ⟨(a9.add (((a4)).toNat * 6)).block,(a9.add (((a4)).toNat * 6)).off+3,none⟩=some (.int .i64 ((Qa l0 (a4)).f3))∧w'.cell? ⟨(a9.add (((a4)).toNat * 6)).block,(a9.add (((a4)).toNat * 6)).off+4,none⟩=some (.int .i64 ((Qa l0 (a4)).f4))∧w'.cell? ⟨(a9.add (((a4)).toNat * 6)).block,(a9.add (((a4)).toNat * 6)).off+5,none⟩=some (.slice e8 ((Qa l0 (a4)).f5).length e9)) (ds:=[]) (zzB 18 0) (by kernel_rfl) rfl rfl ⟨(zzk a1.out 0).trans rfl,(zzk a1.out 1).trans rfl,(zzk a1.out 2).trans rfl,(zzk a1.out 3).trans rfl,(zzk a1.out 4).trans rfl,(zzk a1.out 5).trans rfl,(zzx HB.out e0 :),(zzx HB.out d9 :),(zzx HB.out d8 :),(zzx HB.out d7 :),(zzx HB.out d6 :),(zzx HB.out d5 :)⟩ (fun b0=>?_);refine with_tabW Qi.tab6 Qi.bits6 (fun a3 g0=>?_);generalize p5.drew=q4 at a1 HB e5 c9 d0 d1 d2 d3 d4 b0 ⊢;refine zzT 0 15 18 1 a3 g0 b0 ?_
            refine one_ (i:=1) (N:=some 16) (zzB 18 3) rfl rfl (one_of a3.out (by kernel_rfl)) (by decide) (fun K hK=>?_);refine goes_ Try.func31 (by kernel_rfl) rfl #[.agg #[.bool ((Qa l0 a0).f0),.bool ((Qa l0 a0).f1),.int .i64 ((Qa l0 a0).f2),.int .i64 ((Qa l0 a0).f3),.int .i64 ((Qa l0 a0).f4),.slice a5 ((Qa l0 a0).f5).length a6]] (by rfl) rfl rfl zzM2 ?_;with_reducible refine (Qc.calls k1 ((Qa l0 a0).f0) ((Qa l0 a0).f1) ((Qa l0 a0).f2) ((Qa l0 a0).f3) ((Qa l0 a0).f4) _ _ ((Qa l0 a0).f5) true _ ?side1 ?side2 A6.out).mono ?_
            (case side1=>exact zzcb b9 HB)
            (case side2=>exact c6.out);rintro e q5 ⟨rfl,hb⟩;refine ⟨_,rfl,?_⟩;have a7:=zzm (zzh (g:=a2) (o:=.cells #[.bool ((Qa l0 a0).f0),.bool ((Qa l0 a0).f1),.int .i64 ((Qa l0 a0).f2),.int .i64 ((Qa l0 a0).f3),.int .i64 ((Qa l0 a0).f4),.slice a5 ((Qa l0 a0).f5).length a6] 39 (0,0)) (zzE a1.out) hb);have a8:=zzm (zzp zzh2 hb);clear a1 HB;have a1:=a7;have HB:=a8;clear a7 a8
            (try clear hb)
            (try clear hb2)
            (try clear hk)
            (try clear hi);refine hK.out _ _ ⟨(zzk a1.out 0).trans rfl,(zzk a1.out 1).trans rfl,(zzk a1.out 2).trans rfl,(zzk a1.out 3).trans rfl,(zzk a1.out 4).trans rfl,(zzk a1.out 5).trans rfl,(zzx HB.out e0 :),(zzx HB.out d9 :),(zzx HB.out d8 :),(zzx HB.out d7 :),(zzx HB.out d6 :),(zzx HB.out d5 :)⟩ (fun b0=>?_);clear hK K;refine zzO 16 ?_
            refine zzP 2 17 18 7 a3 ?_
            refine zzP 3 18 18 15 a3 ?_
            refine zzP 4 19 18 31 a3 ?_
            refine zzP 5 20 18 63 a3 ?_
            refine zzP 6 21 18 127 a3 ?_
            refine zzP 7 22 18 255 a3 ?_
            refine zzP 8 23 18 511 a3 ?_
            refine zzP 9 24 18 1023 a3 ?_
            refine zzP 10 25 18 2047 a3 ?_
            refine zzT 11 26 18 4095 a3 g0 b0 ?_
            refine zzT 13 28 18 12287 a3 g0 b0 ?_
            refine one_ (i:=12) (N:=some 27) (zzB 18 16383) rfl rfl (one_of a3.out (by kernel_rfl)) (by decide) (fun K hK=>?_);refine goes_ Try.func32 (by kernel_rfl) rfl #[.agg #[.bool ((Qa l0 (a4)).f0),.bool ((Qa l0 (a4)).f1),.int .i64 ((Qa l0 (a4)).f2),.int .i64 ((Qa l0 (a4)).f3),.int .i64 ((Qa l0 (a4)).f4),.slice e8 ((Qa l0 (a4)).f5).length e9]] (by rfl) rfl rfl (by (try simp only [map_toArray,map_cons,map_nil]);first|done|(simp only [hji9];rfl)|rfl|(simp only [length_drop,length_take];rfl)) ?_;with_reducible refine (Rh.calls ((Qa l0 (a4)).f0) ((Qa l0 (a4)).f1) ((Qa l0 (a4)).f2) ((Qa l0 (a4)).f3) ((Qa l0 (a4)).f4) _ _ ((Qa l0 (a4)).f5) g1 _ ?side1 ?side2 j7.out).mono ?_
            (case side1=>exact zzcb e5 HB)
            (case side2=>exact g6.out);rintro e q6 ⟨rfl,hb⟩;refine ⟨_,rfl,?_⟩;have a7:=zzm (zzh (g:=a2) (o:=.cells #[.bool ((Qa l0 a0).f0),.bool ((Qa l0 a0).f1),.int .i64 ((Qa l0 a0).f2),.int .i64 ((Qa l0 a0).f3),.int .i64 ((Qa l0 a0).f4),.slice a5 ((Qa l0 a0).f5).length a6] 39 (0,0)) (zzE a1.out) hb);have a8:=zzm (zzp zzh2 hb);clear a1 HB;have a1:=a7;have HB:=a8;clear a7 a8
            (try clear hb)
            (try clear hb2)
            (try clear hk)
            (try clear hi);refine hK.out _ _ ⟨(zzk a1.out 0).trans rfl,(zzk a1.out 1).trans rfl,(zzk a1.out 2).trans rfl,(zzk a1.out 3).trans rfl,(zzk a1.out 4).trans rfl,(zzk a1.out 5).trans rfl,(zzx HB.out e0 :),(zzx HB.out d9 :),(zzx HB.out d8 :),(zzx HB.out d7 :),(zzx HB.out d6 :),(zzx HB.out d5 :)⟩ (fun b0=>?_);clear hK K;refine zzO 27 ?_
            refine one_ (i:=14) (N:=some 29) (zzB 18 32767) rfl rfl (one_of a3.out (by kernel_rfl)) (by decide) (fun K hK=>?_);refine goes_ Try.func33 (by kernel_rfl) rfl #[.agg #[.bool ((Qa l0 a0).f0),.bool ((Qa l0 a0).f1),.int .i64 ((Qa l0 a0).f2),.int .i64 ((Qa l0 a0).f3),.int .i64 ((Qa l0 a0).f4),.slice a5 ((Qa l0 a0).f5).length a6]] (by rfl) rfl rfl zzM2 ?_;with_reducible refine (Re.calls ((Qa l0 a0).f0) ((Qa l0 a0).f1) ((Qa l0 a0).f2) ((Qa l0 a0).f3) ((Qa l0 a0).f4) _ _ ((Qa l0 a0).f5) g2 _ ?side1 ?side2 j8.out).mono ?_
            (case side1=>exact zzcb b9 HB)
            (case side2=>exact c6.out);rintro e q7 ⟨rfl,hb⟩;refine ⟨_,rfl,?_⟩;have a7:=zzm (zzh (g:=a2) (o:=.cells #[.bool ((Qa l0 a0).f0),.bool ((Qa l0 a0).f1),.int .i64 ((Qa l0 a0).f2),.int .i64 ((Qa l0 a0).f3),.int .i64 ((Qa l0 a0).f4),.slice a5 ((Qa l0 a0).f5).length a6] 39 (0,0)) (zzE a1.out) hb);have a8:=zzm (zzp zzh2 hb);clear a1 HB;have a1:=a7;have HB:=a8;clear a7 a8
            (try clear hb)
            (try clear hb2)
            (try clear hk)
            (try clear hi);refine hK.out _ _ ⟨(zzk a1.out 0).trans rfl,(zzk a1.out 1).trans rfl,(zzk a1.out 2).trans rfl,(zzk a1.out 3).trans rfl,(zzk a1.out 4).trans rfl,(zzk a1.out 5).trans rfl,(zzx HB.out e0 :),(zzx HB.out d9 :),(zzx HB.out d8 :),(zzx HB.out d7 :),(zzx HB.out d6 :),(zzx HB.out d5 :)⟩ (fun b0=>?_);clear hK K;refine zzO 29 ?_
            refine zzP 15 30 18 65535 a3 ?_
            refine zzP 16 31 18 131071 a3 ?_
            refine zzP 17 32 18 262143 a3 ?_
            refine done_ (done_of a3.out (by kernel_rfl)) ?_;try go_wp2
            go_ret;exact ⟨by first|rfl|(simp [errW_none,errW_some] <;> rfl)|(simp only [← hji9];first|rfl|(simp [errW_none,errW_some] <;> rfl))|(simp [*,errW_none,errW_some] <;> rfl),zzh3⟩
           ·
            rw [if_neg g8] at H;have j4:decide (g2≤g1)=false:=decide_eq_false g8;clear g8;have H':=zzm H;clear H;have e1 : 0≤(a0:Int):=zzt;have e2:a0 < (l0.length:Int):=zzt;obtain ⟨a9,a5,a6,g3,b1,b2,b3,b4,b5,b6,b7,b8⟩:=Qp g7.out a0 e1 e2;cases g3;replace b1:=zzx HB.out b1;replace b2:=zzx HB.out b2;replace b3:=zzx HB.out b3;replace b4:=zzx HB.out b4;replace b5:=zzx HB.out b5;replace b6:=zzx HB.out b6;have b9:=zzm b8;have c6:=zzm b7;clear b8 b7;replace e1:=eq_true e1;replace e2:=eq_true e2;try go_wp2_with (first|((with_reducible refine gate_dst (N:=4) rfl ?_);refine box_event ?hg (N:=4) ?hd (cs:=#[.bool false,.bool false,.int .i64 0,.int .i64 0,.int .i64 0,.slice none 0 0]) (t:=39) ?hr ?_;(case hd=>rfl);(case hg=>rfl);(case hr=>first|(go_simp;done)|(go_simp;rfl));intro a2 hg h8 hbox hb;have a7:=zzm (zzp zzh1 hb);have a8:=zzm (hbox);have e6:=zzm ((by rw [hg];exact (zzo zzh1):w.heap.size≤a2));have e7:=zzm ((by rw [hg];exact (zzo zzh1):w.heap.size≤a2));clear HB;have HB:=a7;have a1:=a8;have g9:=e6;have h0:=e7;clear a7 a8 e6 e7 hb hbox hg;obtain ⟨l7,l8,l9,m0,m1,m2,m3,m4,m5,m6,m7,m8⟩:=zzc6 a1.out))
            have a7:Aside0 (((((((h8.setCell ⟨a2,0,none⟩ (.bool ((Qa l0 a0).f0))).setCell ⟨a2,1,none⟩ (.bool ((Qa l0 a0).f1))).setCell ⟨a2,2,none⟩ (.int .i64 ((Qa l0 a0).f2))).setCell ⟨a2,3,none⟩ (.int .i64 ((Qa l0 a0).f3))).setCell ⟨a2,4,none⟩ (.int .i64 ((Qa l0 a0).f4))).setCell ⟨a2,5,none⟩ (.slice a5 ((Qa l0 a0).f5).length a6)).heap[a2]? = some (.cells #[.bool ((Qa l0 a0).f0),.bool ((Qa l0 a0).f1),.int .i64 ((Qa l0 a0).f2),.int .i64 ((Qa l0 a0).f3),.int .i64 ((Qa l0 a0).f4),.slice a5 ((Qa l0 a0).f5).length a6] 39 (0,0))):=⟨by (with_reducible repeat (first|apply zzf|apply zzg|apply zze));refine zzi (cs:=#[.bool ((Qa l0 a0).f0),.bool ((Qa l0 a0).f1),.int .i64 ((Qa l0 a0).f2),.int .i64 ((Qa l0 a0).f3),.int .i64 ((Qa l0 a0).f4),.slice none 0 0]) ?_ 5 _ rfl;refine zzi (cs:=#[.bool ((Qa l0 a0).f0),.bool ((Qa l0 a0).f1),.int .i64 ((Qa l0 a0).f2),.int .i64 ((Qa l0 a0).f3),.int .i64 0,.slice none 0 0]) ?_ 4 _ rfl;refine zzi (cs:=#[.bool ((Qa l0 a0).f0),.bool ((Qa l0 a0).f1),.int .i64 ((Qa l0 a0).f2),.int .i64 0,.int .i64 0,.slice none 0 0]) ?_ 3 _ rfl;refine zzi (cs:=#[.bool ((Qa l0 a0).f0),.bool ((Qa l0 a0).f1),.int .i64 0,.int .i64 0,.int .i64 0,.slice none 0 0]) ?_ 2 _ rfl;refine zzi (cs:=#[.bool ((Qa l0 a0).f0),.bool false,.int .i64 0,.int .i64 0,.int .i64 0,.slice none 0 0]) ?_ 1 _ rfl;refine zzi (cs:=#[.bool false,.bool false,.int .i64 0,.int .i64 0,.int .i64 0,.slice none 0 0]) ?_ 0 _ rfl;(with_reducible repeat (first|apply zzf|apply zzg|apply zze));exact a1.out⟩;have a8:Aside0 (Below w.heap.size w ((((((h8.setCell ⟨a2,0,none⟩ (.bool ((Qa l0 a0).f0))).setCell ⟨a2,1,none⟩ (.bool ((Qa l0 a0).f1))).setCell ⟨a2,2,none⟩ (.int .i64 ((Qa l0 a0).f2))).setCell ⟨a2,3,none⟩ (.int .i64 ((Qa l0 a0).f3))).setCell ⟨a2,4,none⟩ (.int .i64 ((Qa l0 a0).f4))).setCell ⟨a2,5,none⟩ (.slice a5 ((Qa l0 a0).f5).length a6))):=⟨zzh3⟩
            (try clear a1)
            (try clear HB);generalize ((((((h8.setCell ⟨a2,0,none⟩ (.bool ((Qa l0 a0).f0))).setCell ⟨a2,1,none⟩ (.bool ((Qa l0 a0).f1))).setCell ⟨a2,2,none⟩ (.int .i64 ((Qa l0 a0).f2))).setCell ⟨a2,3,none⟩ (.int .i64 ((Qa l0 a0).f3))).setCell ⟨a2,4,none⟩ (.int .i64 ((Qa l0 a0).f4))).setCell ⟨a2,5,none⟩ (.slice a5 ((Qa l0 a0).f5).length a6))=p6 at a7 a8 ⊢;have a1:=a7;have HB:=a8;clear a7 a8;have a7:=zzm (zzg a1.out);have a8:=zzm (zzc HB.out);clear a1 HB;have a1:=a7;have HB:=a8;clear a7 a8;have g4 : 0≤((a4):Int):=zzt;have g5:(a4) < (l0.length:Int):=zzt;obtain ⟨h1,e8,e9,h2,c9,d0,d1,d2,d3,d4,e3,e4⟩:=Qp g7.out (a4) g4 g5;have d5:=d4;have d6:=d3;have d7:=d2;have d8:=d1;have d9:=d0;have e0:=c9;obtain rfl:a9=h1:=(by injection h2);replace c9:=zzx HB.out c9;replace d0:=zzx HB.out d0;replace d1:=zzx HB.out d1;replace d2:=zzx HB.out d2;replace d3:=zzx HB.out d3;replace d4:=zzx HB.out d4;have e5:=zzm e4;have g6:=zzm e3;clear e4 e3;replace g4:=eq_true g4;replace g5:=eq_true g5;refine start_ (n:=18) (S:=fun w'=>w'.cell? ⟨a2,0,none⟩=some (.bool ((Qa l0 a0).f0))∧w'.cell? ⟨a2,1,none⟩=some (.bool ((Qa l0 a0).f1))∧w'.cell? ⟨a2,2,none⟩=some (.int .i64 ((Qa l0 a0).f2))∧w'.cell? ⟨a2,3,none⟩=some (.int .i64 ((Qa l0 a0).f3))∧w'.cell? ⟨a2,4,none⟩=some (.int .i64 ((Qa l0 a0).f4))∧w'.cell? ⟨a2,5,none⟩=some (.slice a5 ((Qa l0 a0).f5).length a6)∧w'.cell? (a9.add (((a4)).toNat * 6))=some (.bool ((Qa l0 (a4)).f0))∧w'.cell? ⟨(a9.add (((a4)).toNat * 6)).block,(a9.add (((a4)).toNat * 6)).off+1,none⟩=some (.bool ((Qa l0 (a4)).f1))∧w'.cell? ⟨(a9.add (((a4)).toNat * 6)).block,(a9.add (((a4)).toNat * 6)).off+2,none⟩=some (.int .i64 ((Qa l0 (a4)).f2))∧w'.cell? ⟨(a9.add (((a4)).toNat * 6)).block,(a9.add (((a4)).toNat * 6)).off+3,none⟩=some (.int .i64 ((Qa l0 (a4)).f3))∧w'.cell? ⟨(a9.add (((a4)).toNat * 6)).block,(a9.add (((a4)).toNat * 6)).off+4,none⟩=some (.int .i64 ((Qa l0 (a4)).f4))∧w'.cell? ⟨(a9.add (((a4)).toNat * 6)).block,(a9.add (((a4)).toNat * 6)).off+5,none⟩=some (.slice e8 ((Qa l0 (a4)).f5).length e9)) (ds:=[]) (zzB 18 0) (by kernel_rfl) rfl rfl ⟨(zzk a1.out 0).trans rfl,(zzk a1.out 1).trans rfl,(zzk a1.out 2).trans rfl,(zzk a1.out 3).trans rfl,(zzk a1.out 4).trans rfl,(zzk a1.out 5).trans rfl,(zzx HB.out e0 :),(zzx HB.out d9 :),(zzx HB.out d8 :),(zzx HB.out d7 :),(zzx HB.out d6 :),(zzx HB.out d5 :)⟩ (fun b0=>?_);refine with_tabW Qi.tab6 Qi.bits6 (fun a3 g0=>?_);generalize p6.drew=q8 at a1 HB e5 c9 d0 d1 d2 d3 d4 b0 ⊢;refine zzT 0 15 18 1 a3 g0 b0 ?_
            refine one_ (i:=1) (N:=some 16) (zzB 18 3) rfl rfl (one_of a3.out (by kernel_rfl)) (by decide) (fun K hK=>?_);refine goes_ Try.func31 (by kernel_rfl) rfl #[.agg #[.bool ((Qa l0 a0).f0),.bool ((Qa l0 a0).f1),.int .i64 ((Qa l0 a0).f2),.int .i64 ((Qa l0 a0).f3),.int .i64 ((Qa l0 a0).f4),.slice a5 ((Qa l0 a0).f5).length a6]] (by rfl) rfl rfl zzM2 ?_;with_reducible refine (Qc.calls k1 ((Qa l0 a0).f0) ((Qa l0 a0).f1) ((Qa l0 a0).f2) ((Qa l0 a0).f3) ((Qa l0 a0).f4) _ _ ((Qa l0 a0).f5) true _ ?side1 ?side2 A6.out).mono ?_
            (case side1=>exact zzcb b9 HB)
            (case side2=>exact c6.out);rintro e q9 ⟨rfl,hb⟩;refine ⟨_,rfl,?_⟩;have a7:=zzm (zzh (g:=a2) (o:=.cells #[.bool ((Qa l0 a0).f0),.bool ((Qa l0 a0).f1),.int .i64 ((Qa l0 a0).f2),.int .i64 ((Qa l0 a0).f3),.int .i64 ((Qa l0 a0).f4),.slice a5 ((Qa l0 a0).f5).length a6] 39 (0,0)) (zzE a1.out) hb);have a8:=zzm (zzp zzh2 hb);clear a1 HB;have a1:=a7;have HB:=a8;clear a7 a8
            (try clear hb)
            (try clear hb2)
            (try clear hk)
            (try clear hi);refine hK.out _ _ ⟨(zzk a1.out 0).trans rfl,(zzk a1.out 1).trans rfl,(zzk a1.out 2).trans rfl,(zzk a1.out 3).trans rfl,(zzk a1.out 4).trans rfl,(zzk a1.out 5).trans rfl,(zzx HB.out e0 :),(zzx HB.out d9 :),(zzx HB.out d8 :),(zzx HB.out d7 :),(zzx HB.out d6 :),(zzx HB.out d5 :)⟩ (fun b0=>?_);clear hK K;refine zzO 16 ?_
            refine zzP 2 17 18 7 a3 ?_
            refine zzP 3 18 18 15 a3 ?_
            refine zzP 4 19 18 31 a3 ?_
            refine zzP 5 20 18 63 a3 ?_
            refine zzP 6 21 18 127 a3 ?_
            refine zzP 7 22 18 255 a3 ?_
            refine zzP 8 23 18 511 a3 ?_
            refine zzP 9 24 18 1023 a3 ?_
            refine zzP 10 25 18 2047 a3 ?_
            refine zzT 11 26 18 4095 a3 g0 b0 ?_
            refine zzT 13 28 18 12287 a3 g0 b0 ?_
            refine one_ (i:=12) (N:=some 27) (zzB 18 16383) rfl rfl (one_of a3.out (by kernel_rfl)) (by decide) (fun K hK=>?_);refine goes_ Try.func32 (by kernel_rfl) rfl #[.agg #[.bool ((Qa l0 (a4)).f0),.bool ((Qa l0 (a4)).f1),.int .i64 ((Qa l0 (a4)).f2),.int .i64 ((Qa l0 (a4)).f3),.int .i64 ((Qa l0 (a4)).f4),.slice e8 ((Qa l0 (a4)).f5).length e9]] (by rfl) rfl rfl (by (try simp only [map_toArray,map_cons,map_nil]);first|done|(simp only [hji9];rfl)|rfl|(simp only [length_drop,length_take];rfl)) ?_;with_reducible refine (Rh.calls ((Qa l0 (a4)).f0) ((Qa l0 (a4)).f1) ((Qa l0 (a4)).f2) ((Qa l0 (a4)).f3) ((Qa l0 (a4)).f4) _ _ ((Qa l0 (a4)).f5) g1 _ ?side1 ?side2 j7.out).mono ?_
            (case side1=>exact zzcb e5 HB)
            (case side2=>exact g6.out);rintro e r0 ⟨rfl,hb⟩;refine ⟨_,rfl,?_⟩;have a7:=zzm (zzh (g:=a2) (o:=.cells #[.bool ((Qa l0 a0).f0),.bool ((Qa l0 a0).f1),.int .i64 ((Qa l0 a0).f2),.int .i64 ((Qa l0 a0).f3),.int .i64 ((Qa l0 a0).f4),.slice a5 ((Qa l0 a0).f5).length a6] 39 (0,0)) (zzE a1.out) hb);have a8:=zzm (zzp zzh2 hb);clear a1 HB;have a1:=a7;have HB:=a8;clear a7 a8
            (try clear hb)
            (try clear hb2)
            (try clear hk)
            (try clear hi);refine hK.out _ _ ⟨(zzk a1.out 0).trans rfl,(zzk a1.out 1).trans rfl,(zzk a1.out 2).trans rfl,(zzk a1.out 3).trans rfl,(zzk a1.out 4).trans rfl,(zzk a1.out 5).trans rfl,(zzx HB.out e0 :),(zzx HB.out d9 :),(zzx HB.out d8 :),(zzx HB.out d7 :),(zzx HB.out d6 :),(zzx HB.out d5 :)⟩ (fun b0=>?_);clear hK K;refine zzO 27 ?_
            refine one_ (i:=14) (N:=some 29) (zzB 18 32767) rfl rfl (one_of a3.out (by kernel_rfl)) (by decide) (fun K hK=>?_);refine goes_ Try.func33 (by kernel_rfl) rfl #[.agg #[.bool ((Qa l0 a0).f0),.bool ((Qa l0 a0).f1),.int .i64 ((Qa l0 a0).f2),.int .i64 ((Qa l0 a0).f3),.int .i64 ((Qa l0 a0).f4),.slice a5 ((Qa l0 a0).f5).length a6]] (by rfl) rfl rfl zzM2 ?_;with_reducible refine (Re.calls ((Qa l0 a0).f0) ((Qa l0 a0).f1) ((Qa l0 a0).f2) ((Qa l0 a0).f3) ((Qa l0 a0).f4) _ _ ((Qa l0 a0).f5) g2 _ ?side1 ?side2 j8.out).mono ?_
            (case side1=>exact zzcb b9 HB)
            (case side2=>exact c6.out);rintro e r1 ⟨rfl,hb⟩;refine ⟨_,rfl,?_⟩;have a7:=zzm (zzh (g:=a2) (o:=.cells #[.bool ((Qa l0 a0).f0),.bool ((Qa l0 a0).f1),.int .i64 ((Qa l0 a0).f2),.int .i64 ((Qa l0 a0).f3),.int .i64 ((Qa l0 a0).f4),.slice a5 ((Qa l0 a0).f5).length a6] 39 (0,0)) (zzE a1.out) hb);have a8:=zzm (zzp zzh2 hb);clear a1 HB;have a1:=a7;have HB:=a8;clear a7 a8
            (try clear hb)
            (try clear hb2)
            (try clear hk)
            (try clear hi);refine hK.out _ _ ⟨(zzk a1.out 0).trans rfl,(zzk a1.out 1).trans rfl,(zzk a1.out 2).trans rfl,(zzk a1.out 3).trans rfl,(zzk a1.out 4).trans rfl,(zzk a1.out 5).trans rfl,(zzx HB.out e0 :),(zzx HB.out d9 :),(zzx HB.out d8 :),(zzx HB.out d7 :),(zzx HB.out d6 :),(zzx HB.out d5 :)⟩ (fun b0=>?_);clear hK K;refine zzO 29 ?_
            refine zzP 15 30 18 65535 a3 ?_
            refine zzP 16 31 18 131071 a3 ?_
            refine zzP 17 32 18 262143 a3 ?_
            refine done_ (done_of a3.out (by kernel_rfl)) ?_;try go_wp2
            go_roundg k1
            case measure=>have:=HK1.out;omega
            case rel=>exact ⟨(wrap64 (a0+1)),(by first|rfl|(simp;done)|(simp [*];done)),H',⟨by have:=HK1.out;omega⟩,⟨zzh3⟩⟩
          ·
           rw [if_neg h4] at H;exact absurd H (by simp)
         ·
          rw [if_neg h3] at H;exact absurd H (by simp)
        ·
         rw [if_neg c8] at H;have k2:decide (0 < a0)=false:=decide_eq_false c8;clear c8;have H':=zzm H;clear H;have e1 : 0≤(a0:Int):=zzt;have e2:a0 < (l0.length:Int):=zzt;obtain ⟨a9,a5,a6,g3,b1,b2,b3,b4,b5,b6,b7,b8⟩:=Qp g7.out a0 e1 e2;cases g3;replace b1:=zzx HB.out b1;replace b2:=zzx HB.out b2;replace b3:=zzx HB.out b3;replace b4:=zzx HB.out b4;replace b5:=zzx HB.out b5;replace b6:=zzx HB.out b6;have b9:=zzm b8;have c6:=zzm b7;clear b8 b7;replace e1:=eq_true e1;replace e2:=eq_true e2;try go_wp2_with (first|((with_reducible refine gate_dst (N:=4) rfl ?_);refine box_event ?hg (N:=4) ?hd (cs:=#[.bool false,.bool false,.int .i64 0,.int .i64 0,.int .i64 0,.slice none 0 0]) (t:=39) ?hr ?_;(case hd=>rfl);(case hg=>rfl);(case hr=>first|(go_simp;done)|(go_simp;rfl));intro a2 hg h9 hbox hb;have a7:=zzm (zzp zzh1 hb);have a8:=zzm (hbox);have e6:=zzm ((by rw [hg];exact (zzo zzh1):w.heap.size≤a2));have e7:=zzm ((by rw [hg];exact (zzo zzh1):w.heap.size≤a2));clear HB;have HB:=a7;have a1:=a8;have g9:=e6;have h0:=e7;clear a7 a8 e6 e7 hb hbox hg;obtain ⟨m9,n0,n1,n2,n3,n4,n5,n6,n7,n8,n9,o0⟩:=zzc6 a1.out))
         have a7:Aside0 (((((((h9.setCell ⟨a2,0,none⟩ (.bool ((Qa l0 a0).f0))).setCell ⟨a2,1,none⟩ (.bool ((Qa l0 a0).f1))).setCell ⟨a2,2,none⟩ (.int .i64 ((Qa l0 a0).f2))).setCell ⟨a2,3,none⟩ (.int .i64 ((Qa l0 a0).f3))).setCell ⟨a2,4,none⟩ (.int .i64 ((Qa l0 a0).f4))).setCell ⟨a2,5,none⟩ (.slice a5 ((Qa l0 a0).f5).length a6)).heap[a2]? = some (.cells #[.bool ((Qa l0 a0).f0),.bool ((Qa l0 a0).f1),.int .i64 ((Qa l0 a0).f2),.int .i64 ((Qa l0 a0).f3),.int .i64 ((Qa l0 a0).f4),.slice a5 ((Qa l0 a0).f5).length a6] 39 (0,0))):=⟨by (with_reducible repeat (first|apply zzf|apply zzg|apply zze));refine zzi (cs:=#[.bool ((Qa l0 a0).f0),.bool ((Qa l0 a0).f1),.int .i64 ((Qa l0 a0).f2),.int .i64 ((Qa l0 a0).f3),.int .i64 ((Qa l0 a0).f4),.slice none 0 0]) ?_ 5 _ rfl;refine zzi (cs:=#[.bool ((Qa l0 a0).f0),.bool ((Qa l0 a0).f1),.int .i64 ((Qa l0 a0).f2),.int .i64 ((Qa l0 a0).f3),.int .i64 0,.slice none 0 0]) ?_ 4 _ rfl;refine zzi (cs:=#[.bool ((Qa l0 a0).f0),.bool ((Qa l0 a0).f1),.int .i64 ((Qa l0 a0).f2),.int .i64 0,.int .i64 0,.slice none 0 0]) ?_ 3 _ rfl;refine zzi (cs:=#[.bool ((Qa l0 a0).f0),.bool ((Qa l0 a0).f1),.int .i64 0,.int .i64 0,.int .i64 0,.slice none 0 0]) ?_ 2 _ rfl;refine zzi (cs:=#[.bool ((Qa l0 a0).f0),.bool false,.int .i64 0,.int .i64 0,.int .i64 0,.slice none 0 0]) ?_ 1 _ rfl;refine zzi (cs:=#[.bool false,.bool false,.int .i64 0,.int .i64 0,.int .i64 0,.slice none 0 0]) ?_ 0 _ rfl;(with_reducible repeat (first|apply zzf|apply zzg|apply zze));exact a1.out⟩;have a8:Aside0 (Below w.heap.size w ((((((h9.setCell ⟨a2,0,none⟩ (.bool ((Qa l0 a0).f0))).setCell ⟨a2,1,none⟩ (.bool ((Qa l0 a0).f1))).setCell ⟨a2,2,none⟩ (.int .i64 ((Qa l0 a0).f2))).setCell ⟨a2,3,none⟩ (.int .i64 ((Qa l0 a0).f3))).setCell ⟨a2,4,none⟩ (.int .i64 ((Qa l0 a0).f4))).setCell ⟨a2,5,none⟩ (.slice a5 ((Qa l0 a0).f5).length a6))):=⟨zzh3⟩
         (try clear a1)
         (try clear HB);generalize ((((((h9.setCell ⟨a2,0,none⟩ (.bool ((Qa l0 a0).f0))).setCell ⟨a2,1,none⟩ (.bool ((Qa l0 a0).f1))).setCell ⟨a2,2,none⟩ (.int .i64 ((Qa l0 a0).f2))).setCell ⟨a2,3,none⟩ (.int .i64 ((Qa l0 a0).f3))).setCell ⟨a2,4,none⟩ (.int .i64 ((Qa l0 a0).f4))).setCell ⟨a2,5,none⟩ (.slice a5 ((Qa l0 a0).f5).length a6))=p7 at a7 a8 ⊢;have a1:=a7;have HB:=a8;clear a7 a8;have a7:=zzm (zzg a1.out);have a8:=zzm (zzc HB.out);clear a1 HB;have a1:=a7;have HB:=a8;clear a7 a8;refine start_ (n:=18) (S:=fun w'=>w'.cell? ⟨a2,0,none⟩=some (.bool ((Qa l0 a0).f0))∧w'.cell? ⟨a2,1,none⟩=some (.bool ((Qa l0 a0).f1))∧w'.cell? ⟨a2,2,none⟩=some (.int .i64 ((Qa l0 a0).f2))∧w'.cell? ⟨a2,3,none⟩=some (.int .i64 ((Qa l0 a0).f3))∧w'.cell? ⟨a2,4,none⟩=some (.int .i64 ((Qa l0 a0).f4))∧w'.cell? ⟨a2,5,none⟩=some (.slice a5 ((Qa l0 a0).f5).length a6)) (ds:=[]) (zzB 18 0) (by kernel_rfl) rfl rfl ⟨(zzk a1.out 0).trans rfl,(zzk a1.out 1).trans rfl,(zzk a1.out 2).trans rfl,(zzk a1.out 3).trans rfl,(zzk a1.out 4).trans rfl,(zzk a1.out 5).trans rfl⟩ (fun b0=>?_);refine with_tabW Qi.tab6 Qi.bits6 (fun a3 g0=>?_);generalize p7.drew=r2 at a1 HB b0 ⊢;refine zzT 0 15 18 1 a3 g0 b0 ?_
         refine one_ (i:=1) (N:=some 16) (zzB 18 3) rfl rfl (one_of a3.out (by kernel_rfl)) (by decide) (fun K hK=>?_);refine goes_ Try.func31 (by kernel_rfl) rfl #[.agg #[.bool ((Qa l0 a0).f0),.bool ((Qa l0 a0).f1),.int .i64 ((Qa l0 a0).f2),.int .i64 ((Qa l0 a0).f3),.int .i64 ((Qa l0 a0).f4),.slice a5 ((Qa l0 a0).f5).length a6]] (by rfl) rfl rfl zzM2 ?_;with_reducible refine (Qc.calls k1 ((Qa l0 a0).f0) ((Qa l0 a0).f1) ((Qa l0 a0).f2) ((Qa l0 a0).f3) ((Qa l0 a0).f4) _ _ ((Qa l0 a0).f5) true _ ?side1 ?side2 A6.out).mono ?_
         (case side1=>exact zzcb b9 HB)
         (case side2=>exact c6.out);rintro e r3 ⟨rfl,hb⟩;refine ⟨_,rfl,?_⟩;have a7:=zzm (zzh (g:=a2) (o:=.cells #[.bool ((Qa l0 a0).f0),.bool ((Qa l0 a0).f1),.int .i64 ((Qa l0 a0).f2),.int .i64 ((Qa l0 a0).f3),.int .i64 ((Qa l0 a0).f4),.slice a5 ((Qa l0 a0).f5).length a6] 39 (0,0)) (zzE a1.out) hb);have a8:=zzm (zzp zzh2 hb);clear a1 HB;have a1:=a7;have HB:=a8;clear a7 a8
         (try clear hb)
         (try clear hb2)
         (try clear hk)
         (try clear hi);refine hK.out _ _ ⟨(zzk a1.out 0).trans rfl,(zzk a1.out 1).trans rfl,(zzk a1.out 2).trans rfl,(zzk a1.out 3).trans rfl,(zzk a1.out 4).trans rfl,(zzk a1.out 5).trans rfl⟩ (fun b0=>?_);clear hK K;refine zzO 16 ?_
         refine zzP 2 17 18 7 a3 ?_
         refine zzP 3 18 18 15 a3 ?_
         refine zzP 4 19 18 31 a3 ?_
         refine zzP 5 20 18 63 a3 ?_
         refine zzP 6 21 18 127 a3 ?_
         refine zzU 7 22 18 255 a3 ?_
         refine zzU 8 23 18 511 a3 ?_
         refine zzU 9 24 18 1023 a3 ?_
         refine zzU 10 25 18 2047 a3 ?_
         refine zzU 11 26 18 4095 a3 ?_
         refine zzU 12 27 18 8191 a3 ?_
         refine zzU 13 28 18 16383 a3 ?_
         refine zzU 14 29 18 32767 a3 ?_
         refine zzU 15 30 18 65535 a3 ?_
         refine zzP 16 31 18 131071 a3 ?_
         refine zzP 17 32 18 262143 a3 ?_
         refine done_ (done_of a3.out (by kernel_rfl)) ?_;try go_wp2
         go_roundg k1
         case measure=>have:=HK1.out;omega
         case rel=>exact ⟨(wrap64 (a0+1)),(by first|rfl|(simp;done)|(simp [*];done)),H',⟨by have:=HK1.out;omega⟩,⟨zzh3⟩⟩
       ·
        replace c7:=Bool.eq_false_iff.mpr c7;subst c7;replace H:=zzIf H;obtain rfl:=Option.some.inj H;have e1 : 0≤(a0:Int):=zzt;have e2:a0 < (l0.length:Int):=zzt;obtain ⟨a9,a5,a6,g3,b1,b2,b3,b4,b5,b6,b7,b8⟩:=Qp g7.out a0 e1 e2;cases g3;replace b1:=zzx HB.out b1;replace b2:=zzx HB.out b2;replace b3:=zzx HB.out b3;replace b4:=zzx HB.out b4;replace b5:=zzx HB.out b5;replace b6:=zzx HB.out b6;have b9:=zzm b8;have c6:=zzm b7;clear b8 b7;replace e1:=eq_true e1;replace e2:=eq_true e2;try go_wp2_with (first|((with_reducible refine gate_dst (N:=4) rfl ?_);refine box_event ?hg (N:=4) ?hd (cs:=#[.bool false,.bool false,.int .i64 0,.int .i64 0,.int .i64 0,.slice none 0 0]) (t:=39) ?hr ?_;(case hd=>rfl);(case hg=>rfl);(case hr=>first|(go_simp;done)|(go_simp;rfl));intro a2 hg j3 hbox hb;have a7:=zzm (zzp zzh1 hb);have a8:=zzm (hbox);have e6:=zzm ((by rw [hg];exact (zzo zzh1):w.heap.size≤a2));have e7:=zzm ((by rw [hg];exact (zzo zzh1):w.heap.size≤a2));clear HB;have HB:=a7;have a1:=a8;have g9:=e6;have h0:=e7;clear a7 a8 e6 e7 hb hbox hg;obtain ⟨o1,o2,o3,o4,o5,o6,o7,o8,o9,p0,p1,p3⟩:=zzc6 a1.out))
        have a7:Aside0 (((((((j3.setCell ⟨a2,0,none⟩ (.bool ((Qa l0 a0).f0))).setCell ⟨a2,1,none⟩ (.bool ((Qa l0 a0).f1))).setCell ⟨a2,2,none⟩ (.int .i64 ((Qa l0 a0).f2))).setCell ⟨a2,3,none⟩ (.int .i64 ((Qa l0 a0).f3))).setCell ⟨a2,4,none⟩ (.int .i64 ((Qa l0 a0).f4))).setCell ⟨a2,5,none⟩ (.slice a5 ((Qa l0 a0).f5).length a6)).heap[a2]? = some (.cells #[.bool ((Qa l0 a0).f0),.bool ((Qa l0 a0).f1),.int .i64 ((Qa l0 a0).f2),.int .i64 ((Qa l0 a0).f3),.int .i64 ((Qa l0 a0).f4),.slice a5 ((Qa l0 a0).f5).length a6] 39 (0,0))):=⟨by (with_reducible repeat (first|apply zzf|apply zzg|apply zze));refine zzi (cs:=#[.bool ((Qa l0 a0).f0),.bool ((Qa l0 a0).f1),.int .i64 ((Qa l0 a0).f2),.int .i64 ((Qa l0 a0).f3),.int .i64 ((Qa l0 a0).f4),.slice none 0 0]) ?_ 5 _ rfl;refine zzi (cs:=#[.bool ((Qa l0 a0).f0),.bool ((Qa l0 a0).f1),.int .i64 ((Qa l0 a0).f2),.int .i64 ((Qa l0 a0).f3),.int .i64 0,.slice none 0 0]) ?_ 4 _ rfl;refine zzi (cs:=#[.bool ((Qa l0 a0).f0),.bool ((Qa l0 a0).f1),.int .i64 ((Qa l0 a0).f2),.int .i64 0,.int .i64 0,.slice none 0 0]) ?_ 3 _ rfl;refine zzi (cs:=#[.bool ((Qa l0 a0).f0),.bool ((Qa l0 a0).f1),.int .i64 0,.int .i64 0,.int .i64 0,.slice none 0 0]) ?_ 2 _ rfl;refine zzi (cs:=#[.bool ((Qa l0 a0).f0),.bool false,.int .i64 0,.int .i64 0,.int .i64 0,.slice none 0 0]) ?_ 1 _ rfl;refine zzi (cs:=#[.bool false,.bool false,.int .i64 0,.int .i64 0,.int .i64 0,.slice none 0 0]) ?_ 0 _ rfl;(with_reducible repeat (first|apply zzf|apply zzg|apply zze));exact a1.out⟩;have a8:Aside0 (Below w.heap.size w ((((((j3.setCell ⟨a2,0,none⟩ (.bool ((Qa l0 a0).f0))).setCell ⟨a2,1,none⟩ (.bool ((Qa l0 a0).f1))).setCell ⟨a2,2,none⟩ (.int .i64 ((Qa l0 a0).f2))).setCell ⟨a2,3,none⟩ (.int .i64 ((Qa l0 a0).f3))).setCell ⟨a2,4,none⟩ (.int .i64 ((Qa l0 a0).f4))).setCell ⟨a2,5,none⟩ (.slice a5 ((Qa l0 a0).f5).length a6))):=⟨zzh3⟩
        (try clear a1)
        (try clear HB);generalize ((((((j3.setCell ⟨a2,0,none⟩ (.bool ((Qa l0 a0).f0))).setCell ⟨a2,1,none⟩ (.bool ((Qa l0 a0).f1))).setCell ⟨a2,2,none⟩ (.int .i64 ((Qa l0 a0).f2))).setCell ⟨a2,3,none⟩ (.int .i64 ((Qa l0 a0).f3))).setCell ⟨a2,4,none⟩ (.int .i64 ((Qa l0 a0).f4))).setCell ⟨a2,5,none⟩ (.slice a5 ((Qa l0 a0).f5).length a6))=p8 at a7 a8 ⊢;have a1:=a7;have HB:=a8;clear a7 a8;have a7:=zzm (zzg a1.out);have a8:=zzm (zzc HB.out);clear a1 HB;have a1:=a7;have HB:=a8;clear a7 a8;refine start_ (n:=18) (S:=fun w'=>w'.cell? ⟨a2,0,none⟩=some (.bool ((Qa l0 a0).f0))∧w'.cell? ⟨a2,1,none⟩=some (.bool ((Qa l0 a0).f1))∧w'.cell? ⟨a2,2,none⟩=some (.int .i64 ((Qa l0 a0).f2))∧w'.cell? ⟨a2,3,none⟩=some (.int .i64 ((Qa l0 a0).f3))∧w'.cell? ⟨a2,4,none⟩=some (.int .i64 ((Qa l0 a0).f4))∧w'.cell? ⟨a2,5,none⟩=some (.slice a5 ((Qa l0 a0).f5).length a6)) (ds:=[]) (zzB 18 0) (by kernel_rfl) rfl rfl ⟨(zzk a1.out 0).trans rfl,(zzk a1.out 1).trans rfl,(zzk a1.out 2).trans rfl,(zzk a1.out 3).trans rfl,(zzk a1.out 4).trans rfl,(zzk a1.out 5).trans rfl⟩ (fun b0=>?_);refine with_tabW Qi.tab6 Qi.bits6 (fun a3 g0=>?_);generalize p8.drew=r4 at a1 HB b0 ⊢;refine zzT 0 15 18 1 a3 g0 b0 ?_
        refine one_ (i:=1) (N:=some 16) (zzB 18 3) rfl rfl (one_of a3.out (by kernel_rfl)) (by decide) (fun K hK=>?_);refine goes_ Try.func31 (by kernel_rfl) rfl #[.agg #[.bool ((Qa l0 a0).f0),.bool ((Qa l0 a0).f1),.int .i64 ((Qa l0 a0).f2),.int .i64 ((Qa l0 a0).f3),.int .i64 ((Qa l0 a0).f4),.slice a5 ((Qa l0 a0).f5).length a6]] (by rfl) rfl rfl zzM2 ?_;with_reducible refine (Qc.calls k1 ((Qa l0 a0).f0) ((Qa l0 a0).f1) ((Qa l0 a0).f2) ((Qa l0 a0).f3) ((Qa l0 a0).f4) _ _ ((Qa l0 a0).f5) false _ ?side1 ?side2 A6.out).mono ?_
        (case side1=>exact zzcb b9 HB)
        (case side2=>exact c6.out);rintro e r5 ⟨rfl,hb⟩;refine ⟨_,rfl,?_⟩;have a7:=zzm (zzh (g:=a2) (o:=.cells #[.bool ((Qa l0 a0).f0),.bool ((Qa l0 a0).f1),.int .i64 ((Qa l0 a0).f2),.int .i64 ((Qa l0 a0).f3),.int .i64 ((Qa l0 a0).f4),.slice a5 ((Qa l0 a0).f5).length a6] 39 (0,0)) (zzE a1.out) hb);have a8:=zzm (zzp zzh2 hb);clear a1 HB;have a1:=a7;have HB:=a8;clear a7 a8
        (try clear hb)
        (try clear hb2)
        (try clear hk)
        (try clear hi);refine hK.out _ _ ⟨(zzk a1.out 0).trans rfl,(zzk a1.out 1).trans rfl,(zzk a1.out 2).trans rfl,(zzk a1.out 3).trans rfl,(zzk a1.out 4).trans rfl,(zzk a1.out 5).trans rfl⟩ (fun b0=>?_);clear hK K;refine zzO 16 ?_
        refine zzP 2 17 18 7 a3 ?_
        refine zzP 3 18 18 15 a3 ?_
        refine zzU 4 19 18 31 a3 ?_
        refine zzU 5 20 18 63 a3 ?_
        refine zzU 6 21 18 127 a3 ?_
        refine zzU 7 22 18 255 a3 ?_
        refine zzU 8 23 18 511 a3 ?_
        refine zzU 9 24 18 1023 a3 ?_
        refine zzU 10 25 18 2047 a3 ?_
        refine zzU 11 26 18 4095 a3 ?_
        refine zzU 12 27 18 8191 a3 ?_
        refine zzU 13 28 18 16383 a3 ?_
        refine zzU 14 29 18 32767 a3 ?_
        refine zzU 15 30 18 65535 a3 ?_
        refine zzU 16 31 18 131071 a3 ?_
        refine zzP 17 32 18 262143 a3 ?_
        refine done_ (done_of a3.out (by kernel_rfl)) ?_;try go_wp2
        go_ret;exact ⟨zzR,zzh3⟩
      ·
       rw [if_neg c5] at H;exact absurd H (by simp)
     ·
      rw [if_neg c4] at H;exact absurd H (by simp)
    ·
     rw [if_neg c3] at H;have j9:decide (a0 < (l0.length:Int))=false:=decide_eq_false c3;clear c3;obtain rfl:=Option.some.inj H;go_wp2;go_ret;exact ⟨zzR,zzh1⟩

set_option linter.unusedVariables false
set_option linter.unusedSimpArgs false
theorem builder_size:(Try.prog.info? 80).map (·.size)=some 2:=by kernel_rfl
theorem builder_lies:liesAt Try.prog Try.prog.depth 80 (2 / Try.prog.cellsOf 80) 0 80 1=true:=by kernel_rfl
theorem byte_info:(Try.prog.info? 5).map (fun i=>(i.zero,i.size,i.bytes))=some (some (.int .u8 0),1,1):=by kernel_rfl
section
open Go.Shelf
def bt_ren:Go.Shelf.Ren:=⟨fun | 169=>54|n=>n,fun | 70=>77 | 9=>9 | 0=>0 | 72=>80 | 37=>78 | 127=>92 | 3=>3 | 5=>5|n=>n,fun|n=>n⟩
theorem bt_lays:Go.Proofs.Lays.n169 Try.prog bt_ren:={
 mixed:=by kernel_rfl
 f169:=Try.func54.trans (congrArg some (by kernel_rfl))
 t0:=Try.underlying0
 a0:=Try.isAgg0
 z0:=Try.sizeOf0
 v0:=Try.zeroValue0
 t3:=Try.underlying3
 a3:=Try.isAgg3
 z3:=Try.sizeOf3
 v3:=Try.zeroValue3
 t9:=Try.underlying9
 a9:=Try.isAgg9
 z9:=Try.sizeOf9
 v9:=Try.zeroValue9
 t37:=Try.underlying78
 a37:=Try.isAgg78
 z37:=Try.sizeOf78
 v37:=Try.zeroValue78
 t70:=Try.underlying77
 a70:=Try.isAgg77
 z70:=Try.sizeOf77
 v70:=Try.zeroValue77
 t72:=Try.underlying80
 a72:=Try.isAgg80
 z72:=Try.sizeOf80
 v72:=Try.zeroValue80
 t127:=Try.underlying92
 a127:=Try.isAgg92
 z127:=Try.sizeOf92
 v127:=Try.zeroValue92 }
theorem bt_extra:Builder.Extra Try.prog bt_ren:={
 sizeBuilder:=by kernel_rfl
 liesBuilder:=by kernel_rfl
 t5:=Try.underlying5
 a5:=Try.isAgg5
 z5:=Try.sizeOf5
 v5:=Try.zeroValue5
 infoByte:=by kernel_rfl
 cellsByte:=by kernel_rfl
 sizeByte:=by kernel_rfl
 neB5:=by decide }
theorem builder_string (B b:Nat) (l:List UInt8) (w:World) (h:Lib.IsBuilder 80 5 B b (Lib.byteCells l) w) (hBw:B≤w.heap.size) :
 Calls Try.prog 54 #[.pointer (some ⟨b,0,none⟩)] w fun e w'=>e = .returned (.string ⟨l.toArray⟩)∧Below B w w':=Any.Builder_String_any bt_lays bt_extra B b l w h hBw
set_option maxHeartbeats 1000000 in
theorem builder_check_used (b:Nat) (w:World) (h0:w.cell? ⟨b,0,none⟩=some (.pointer (some ⟨b,0,none⟩))) :
  Calls Try.prog 64 #[.pointer (some ⟨b,0,none⟩)] w fun e w'=>e = .returned (.tuple #[])∧w' = w:=by
 obtain ⟨j,hj,_⟩:=Option.map_eq_some_iff.1 builder_size;go_enter Try.func64,Try.ntmps64;go_wp2;rw [Lib.run_neq_ptr_same w _ Try.underlying77 hj];go_wp2;go_end0;exact ⟨rfl,rfl⟩
set_option maxHeartbeats 1000000 in
theorem builder_check_fresh (b:Nat) (w:World) (h0:w.cell? ⟨b,0,none⟩=some (.pointer none)) (hsh:w.shape? b=some (80,2)) (hfz:w.frozen? ⟨b,0,none⟩=false) :
  Calls Try.prog 64 #[.pointer (some ⟨b,0,none⟩)] w fun e w'=>e = .returned (.tuple #[])∧w' = w.setCell ⟨b,0,none⟩ (.pointer (some ⟨b,0,none⟩)):=by
 obtain ⟨j,hj,hjs⟩:=Option.map_eq_some_iff.1 builder_size;go_enter Try.func64,Try.ntmps64;go_wp2;rw [Lib.run_to_unsafe w ⟨b,0,none⟩ Try.underlying77 Try.underlying95 hj (by rw [hjs];decide) hsh (Nat.zero_lt_succ 1)];simp only [Result.andThen];rw [Oper.upon_value];go_wp2;rw [run_callFunc_extern Try.func69 (by kernel_rfl) (by kernel_rfl) (by kernel_rfl) (e:=Extern.AbiNoEscape.same) (by kernel_rfl)];rw [Lib.run_noEscape];simp only [Result.andThen];rw [Oper.upon_value];go_wp2;rw [Lib.run_from_unsafe w ⟨b,0,none⟩ Try.underlying95 Try.underlying77 hj hsh builder_lies];simp only [Result.andThen];rw [Oper.upon_value];go_wp2;go_end0;exact ⟨rfl,rfl⟩
theorem builder_check (B b:Nat) (bs:List Value) (w:World) (h:Lib.IsBuilder 80 5 B b bs w) :
  Calls Try.prog 64 #[.pointer (some ⟨b,0,none⟩)] w fun e w'=>e = .returned (.tuple #[])∧(Lib.BuilderAt 80 5 B b (.pointer (some ⟨b,0,none⟩)) bs w'∧Below B w w'):=by
 rcases h with h|h
 ·
  refine (builder_check_fresh b w h.cell0 h.shape h.frozen0).mono ?_;rintro e w' ⟨rfl,rfl⟩;exact ⟨rfl,h.used _,(Below.refl B w).setCell (p:=⟨b,0,none⟩) h.1 _⟩
 ·
  refine (builder_check_used b w h.cell0).mono ?_;rintro e w' ⟨rfl,rfl⟩;exact ⟨rfl,h,Below.refl B _⟩
set_option maxHeartbeats 2000000 in
theorem builder_byte (B b:Nat) (bs:List Value) (c:Int) (w:World) (h:Lib.IsBuilder 80 5 B b bs w) (hlen:bs.length+1≤140737488355328) (hBw:B≤w.heap.size) :
  Calls Try.prog 53 #[.pointer (some ⟨b,0,none⟩),.int .u8 c] w fun e w'=>e = .returned .nilIface∧(Lib.BuilderAt 80 5 B b (.pointer (some ⟨b,0,none⟩)) (bs ++ [.int .u8 c]) w'∧Below B w w'):=by
 obtain ⟨i0,hi,hz0,hz1,hz2⟩:=info_parts byte_info;go_enter Try.func53,Try.ntmps53;go_wp2_with (go_at_call 64;refine (builder_check B b bs _ h).mono ?_);rintro e w1 ⟨rfl,h1,hb1⟩;obtain ⟨hB,v,hbk,hown,hne⟩:=h1;have c0:w1.cell? ⟨b,0,none⟩=some (.pointer (some ⟨b,0,none⟩)):=by rw [Lib.cell_of_heap hbk];rfl
 have c1:w1.cell? ⟨b,1,none⟩=some v:=by rw [Lib.cell_of_heap hbk];rfl
 go_wp2_with (at_builtin;refine wpList_append_own _ rfl _ _ 78 rfl B 5 i0 (.int .u8 0) 1 1 Try.underlying78 hi hz0 hz1 hz2 rfl (by decide) _ _ _ rfl (hown.alloc _) ⟨w1.heap.size,0,none⟩ 1 1 [.int .u8 c] rfl rfl ?c1 ?c2 ?c3 ?c4 ?c5 ?_)
 case c1=>
  intro j u hj;match j,hj with
  | 0,hj=>simp at hj;subst hj;simp [Addr.add]
 case c2=>intro u hu;simp at hu;subst hu;rfl
 case c3=>unfold maxLen;omega
 case c4=>omega
 case c5=>have:=hb1.size;simp;omega
 intro v' w2 hown' hgrow _;have hlt:b < w1.heap.size:=by
  rcases Nat.lt_or_ge b w1.heap.size with h' | h'
  ·
   exact h'
  ·
   simp [Array.getElem?_eq_none h'] at hbk
 have hb2:w2.heap[b]? = some (.cells #[.pointer (some ⟨b,0,none⟩),v] 80 (0,0)):=by
  rw [hgrow.block b (by simp;omega) (fun e=>hne e.symm),Lib.alloc_old w1 _ b hlt];exact hbk
 have d0:w2.cell? ⟨b,0,none⟩=some (.pointer (some ⟨b,0,none⟩)):=by rw [Lib.cell_of_heap hb2];rfl
 have d1:w2.cell? ⟨b,1,none⟩=some v:=by rw [Lib.cell_of_heap hb2];rfl
 have f1:w2.frozen? ⟨b,1,none⟩=false:=Lib.frozen_of_heap hb2 1;obtain ⟨g,cap,rfl⟩:∃ g cap,v' = .slice (some ⟨g,0,none⟩) (bs.length+1) cap:=by
  rcases hown'.2 with ⟨_,h0⟩|⟨g,cap,cur,hv,_⟩
  ·
   omega
  ·
   exact ⟨g,cap,hv⟩
 go_wp2;go_ret;refine ⟨rfl,?_,?_⟩
 ·
  exact Lib.BuilderAt.put (T:=80) (e:=5) hB hb2 (bs':=bs ++ [.int .u8 c]) (by simpa using hown') (by decide)
 ·
  exact ((hb1.alloc (by have:=hb1.size;omega) _).grown hgrow (by have:=hb1.size;simp;omega) (fun k hk=>(hown.lt k hk).1)).setCell (p:=⟨b,1,none⟩) hB _
end
def hexDig (n:Int):UInt8:=UInt8.ofNat (if n < 10 then 48+n.toNat else 87+n.toNat)
def hexOf (l:List Int):List UInt8:=l.flatMap fun b=>[hexDig (b / 16),hexDig (b % 16)]
theorem hexOf_snoc (l:List Int) (b:Int):hexOf (l ++ [b])=hexOf l ++ [hexDig (b / 16),hexDig (b % 16)]:=by simp [hexOf]
theorem hexOf_len (l:List Int):(hexOf l).length=2 * l.length:=by
 induction l with
 | nil=>rfl
 | cons a l ih=>simp only [hexOf,List.flatMap_cons,List.length_append,List.length_cons,List.length_nil] at *;omega
def digits16:ByteArray:=⟨#[48,49,50,51,52,53,54,55,56,57,97,98,99,100,101,102]⟩
theorem and15_all:∀ n:Fin 256,Go.bits .and .i64 ((n.1:Nat):Int) 15=((n.1:Nat):Int) % 16:=by decide +kernel
theorem and15 {x:Int} (h0 : 0≤x) (h1:x≤255):Go.bits .and .i64 x 15=x % 16:=by
 obtain ⟨n,rfl⟩:=Int.eq_ofNat_of_zero_le h0;exact and15_all ⟨n,by omega⟩
theorem dig_all:∀ n:Fin 16,(digits16[n.1]'n.2).toNat=(hexDig ((n.1:Nat):Int)).toNat:=by decide +kernel
theorem dig_at {x:Int} (h0 : 0≤x) (h1:x < 16) (h:x.toNat < digits16.size):((digits16[x.toNat]'h).toNat:Int)=((hexDig x).toNat:Int):=by
 obtain ⟨n,rfl⟩:=Int.eq_ofNat_of_zero_le h0;have:=dig_all ⟨n,by omega⟩;exact congrArg (fun k:Nat=>(k:Int)) this
def keyOk (l:List Int):Bool:=decide (l.length≤1000)&&l.all fun x=>decide (0≤x∧x≤255)
theorem keyOk_len {l:List Int} (h:keyOk l=true):l.length≤1000:=by
 unfold keyOk at h;rw [Bool.and_eq_true,decide_eq_true_eq] at h;exact h.1
theorem keyOk_at {l:List Int} (h:keyOk l=true):∀ m:Nat,m < l.length→0≤rd l (m:Int)∧rd l (m:Int)≤255:=by
 intro m hm;unfold keyOk at h;rw [Bool.and_eq_true] at h;have:=List.all_eq_true.1 h.2 _ (List.getElem_mem hm);rw [decide_eq_true_eq] at this;unfold rd;rw [Int.toNat_natCast,List.getD_eq_getElem?_getD,List.getElem?_eq_getElem hm];exact this
def Rn.f (k:Nat) (l0:List Int):Option ByteArray:=(Qn.f k l0).bind fun t=>if t=true then (if keyOk l0=true then some ⟨(hexOf l0).toArray⟩ else none) else some ⟨#[]⟩
set_option maxHeartbeats 2000000 in
theorem Rn.calls (k:Nat) (A0:Option Addr) (c0:Nat) (l0:List Int) (r:ByteArray) (w:World) (a2:Kd.C (Kd.int .i64) w A0 l0.length l0) (a0:l0.length≤c0) (h:Rn.f k l0=some r) :
  Calls Try.prog 35 #[.slice A0 l0.length c0] w fun e w'=>e = .returned (.string r)∧Below w.heap.size w w':=by
 unfold Rn.f at h;replace h:=Option.bind_eq_some_iff.mp h;obtain ⟨t0,a3,h⟩:=h;have HV0:=zzm a3;have a1:=zzm a2;have a4:=zzm a0;clear a2 a0 a3;cases t0 with
 | false=>
  have hr:r=⟨#[]⟩:=by simpa using h.symm
  clear h;go_enter Try.func35,Try.ntmps35;go_wp2_with (go_at_call 52;refine (Qn.calls k _ _ l0 _ _ a1.out a4.out HV0.out).mono ?_;rintro e w1 ⟨rfl,⟨n1,rfl⟩⟩);go_ret;subst hr;exact ⟨rfl,zzb (Below.refl _ _) n1⟩
 | true=>
  rw [if_pos rfl] at h;by_cases hk:keyOk l0=true
  ·
   rw [if_pos hk] at h;have HF:=zzm (Option.some.inj h);have HK:=zzm hk;clear h hk;go_enter Try.func35,Try.ntmps35;go_wp2_with (go_at_call 52;refine (Qn.calls k _ _ l0 _ _ a1.out a4.out HV0.out).mono ?_;rintro e w1 ⟨rfl,⟨n1,rfl⟩⟩);have HK2:=zzm (keyOk_at HK.out);have hlen:=(keyOk_len HK.out);have hB0:Below w.heap.size w (w.alloc (.cells #[.pointer none,.slice none 0 0] 80)):=(Below.refl _ w).alloc (Nat.le_refl _) _;have hI0:=Lib.fresh_isBuilder 80 5 w;go_loopw [11,5] (fun i i5 w'=>∃ m:Nat,m≤l0.length∧i = .int .i64 m∧Lib.IsBuilder 80 5 w.heap.size w.heap.size (Lib.byteCells (hexOf (l0.take m))) w'∧Below w.heap.size w w') (fun i _ _=>l0.length - (intOf i).toNat)
   case atStart=>exact ⟨0,Nat.zero_le _,rfl,by simp only [List.take_zero];exact hI0,by first|exact hB0|exact zzb hB0 n1⟩
   case round=>
    obtain ⟨m,hm,rfl,hI,hB⟩:=hrel;have HB:=zzm hB;have HI:=zzm hI;clear hB hI hB0 hI0;by_cases hlt:m < l0.length
    ·
     obtain ⟨ad,he,a5⟩:=Kd.at_int a1.out (m:Int) (by omega) (by omega);subst he;have a0:=zzx HB.out a5;simp only [Int.toNat_natCast] at a0;obtain ⟨hb0,hb1⟩:=HK2.out m hlt;have hand:=and15 hb0 hb1;have hml:(hexOf (l0.take m)).length≤2000:=by rw [hexOf_len,length_take];omega
     go_wp2_with (first|(go_at_call 53;have hi_:=HI;clear HI;refine (builder_byte w.heap.size w.heap.size _ _ _ hi_.out (by rw [Lib.byteCells_length];omega) HB.out.size).mono ?_;rintro e w2 ⟨rfl,h2,hb2⟩;have H2:=zzm h2;have HB2:=zzm (HB.out.trans hb2);clear h2 hb2)|(go_at_call 53;refine (builder_byte w.heap.size w.heap.size _ _ _ (.inr H2.out) (by rw [List.length_append,List.length_singleton,Lib.byteCells_length];omega) HB2.out.size).mono ?_;rintro e w3 ⟨rfl,h3,hb3⟩;have H3:=zzm h3;have HB3:=zzm (HB2.out.trans hb3);clear h3 hb3));go_roundw
     case rel=>
      refine ⟨m+1,by omega,by go_num,.inr ?_,HB3.out⟩;have e1:l0.take (m+1)=l0.take m ++ [rd l0 (m:Int)]:=by
       rw [List.take_add_one,List.getElem?_eq_getElem hlt];unfold rd;rw [Int.toNat_natCast,List.getD_eq_getElem?_getD,List.getElem?_eq_getElem hlt];rfl
      have h3:=H3.out;have d1:=dig_at (x:=rd l0 (m:Int) / 16) (by omega) (by omega) (by show _ < 16;omega);have d2:=dig_at (x:=rd l0 (m:Int) % 16) (by omega) (by omega) (by show _ < 16;omega);have e2:Lib.byteCells (hexOf (l0.take (m+1)))=Lib.byteCells (hexOf (l0.take m)) ++ [.int .u8 ((hexDig (rd l0 (m:Int) / 16)).toNat:Int)] ++ [.int .u8 ((hexDig (rd l0 (m:Int) % 16)).toNat:Int)]:=by
       rw [e1,hexOf_snoc];simp [Lib.byteCells]
      rw [e2,← d1,← d2];exact h3
     case measure=>simp [intOf] <;> omega
    ·
     have hk2:m=l0.length:=by omega
     go_wp2_with (go_at_call 54;refine (builder_string w.heap.size w.heap.size (hexOf l0) _ (by rw [hk2,List.take_length] at HI;exact HI.out) HB.out.size).mono ?_;rintro e w2 ⟨rfl,hb2⟩);go_ret;exact ⟨congrArg (fun x=>Ending.returned (Value.string x)) HF.out,HB.out.trans hb2⟩
  ·
   rw [if_neg hk] at h;cases h

set_option linter.unusedVariables false
set_option linter.unusedSimpArgs false
section
variable {P:Program} {ops:Array Oper} {rest:List Oper} {o:Oper} {a:Act} {W:World} {Q:Exit→Act→World→Prop} {Kc:Act→World→Prop} {α:Type}
theorem run_make0 (t:TypeId) (x y:Operand) (ho:o.op = .makeSlice t x y) (n:Int) (hx:a.eval x = .int .i64 0) (hy:a.eval y = .int .i64 n) {e sz:Nat}
  (ht:P.underlying t=some (.slice e)) (z:Value) (bytes:Nat) (hinfo:(P.info? e).map (fun i=>(i.zero,i.size,i.bytes))=some (some z,sz,bytes)) (hb0 : 0 < bytes) (h0 : 0≤n) (hl:n.toNat * bytes≤281474976710656) :
  (execOp a.eval o).run P W = .ok (.value (.slice (some ⟨W.heap.size,0,none⟩) 0 n.toNat)) (W.alloc (.cells (madeCells z.cells (n.toNat * sz)) e)):=by
 obtain ⟨m,rfl⟩:=Int.eq_ofNat_of_zero_le h0;simp only [Int.toNat_natCast] at hl ⊢;obtain ⟨i0,hi,hzz⟩:=Option.map_eq_some_iff.1 hinfo;simp only [Prod.mk.injEq] at hzz;obtain ⟨hz0,hz1,hz2⟩:=hzz;have hm:m≤281474976710656:=Nat.le_trans (Nat.le_mul_of_pos_right _ hb0) hl;have hr:=run_make (P:=P) W t e i0 z ht hi hz0 .i64 .i64 0 (m:Int) (by omega) (by omega)
  (by
   have h3:((i0.bytes * m:Nat):Int)≤281474976710656:=by rw [hz2,Nat.mul_comm];omega
   rwa [Int.natCast_mul] at h3) (by omega)
 simp only [Int.toNat_natCast,Int.toNat_zero] at hr;rw [hz1] at hr;simp [execOp,ho,hx,hy,hr]
theorem made0_R (d:Kd α) (e base m:Nat) (z:Value) {ok:Nat→Prop} (hfresh:ok W.heap.size) (hbase:base≤W.heap.size) (hm:m≤9223372036854775807) :
  d.R e (W.alloc (.cells (madeCells z.cells (m * d.sz)) e)) base ok (.slice (some ⟨W.heap.size,0,none⟩) 0 m) []:=by
 refine ⟨fun k hk=>?_,[],?_,by simp,fun j p hj=>by simp at hj⟩
 ·
  have:W.heap.size=k:=by simpa [Value.ownBlock] using hk
  subst this;exact hfresh
 ·
  have h2:=own_take (World.ownsRow_lit (base:=base) (e:=e) (size:=d.sz) W (madeCells z.cells (m * d.sz)) m hbase (by simpa [maxLen] using hm) (by simp [size_madeCells])) (Nat.zero_le m);simpa using h2
theorem rmake0_R (d:Kd α) {w0:World} (base e:Nat) (hgd:o.guard=none) {N:Tmp} (_hd:o.dst=some N) (t:TypeId) (x y:Operand) (ho:o.op = .makeSlice t x y) (n:Int) (hx:a.eval x = .int .i64 0) (hy:a.eval y = .int .i64 n)
  (ht:P.underlying t=some (.slice e)) (z:Value) (bytes:Nat) (hinfo:(P.info? e).map (fun i=>(i.zero,i.size,i.bytes))=some (some z,d.sz,bytes)) (hs0 : 0 < d.sz) (hb0 : 0 < bytes)
  {ok:Nat→Prop} (hfresh:ok W.heap.size) (h0 : 0≤n) (hl:n.toNat * bytes≤281474976710656) (HB:Below base w0 W) (hbase:base≤W.heap.size)
  (h:∀ v1 w1,d.R e w1 base ok v1 []→Below base w0 w1→W.grownBy w1 none→(∃ b,v1.ownBlock=some b∧W.heap.size≤b)→wpList P ops Q rest (a.put o.dst v1) w1):wpList P ops Q (o::rest) a W:=
 Kd.event_run hgd (run_make0 t x y ho n hx hy ht z bytes hinfo hb0 h0 hl) (h _ _ (made0_R d e base _ z hfresh hbase (by have:=Nat.le_mul_of_pos_right n.toNat hb0;omega)) (HB.alloc hbase _) (World.grownBy_alloc W _ none) ⟨W.heap.size,by simp [Value.ownBlock],Nat.le_refl _⟩)
theorem rmake0_S (d:Kd α) {w0:World} (base e:Nat) (hgd:o.guard=none) {N:Tmp} (_hd:o.dst=some N) (t:TypeId) (x y:Operand) (ho:o.op = .makeSlice t x y) (n:Int) (hx:a.eval x = .int .i64 0) (hy:a.eval y = .int .i64 n)
  (ht:P.underlying t=some (.slice e)) (z:Value) (bytes:Nat) (hinfo:(P.info? e).map (fun i=>(i.zero,i.size,i.bytes))=some (some z,d.sz,bytes)) (hs0 : 0 < d.sz) (hb0 : 0 < bytes)
  {ok:Nat→Prop} (hfresh:ok W.heap.size) (h0 : 0≤n) (hl:n.toNat * bytes≤281474976710656) (HB:Below base w0 W) (hbase:base≤W.heap.size)
  (h:∀ v1 w1,Kd.S d e w1 base ok v1 []→Below base w0 w1→W.grownBy w1 none→(∃ b,v1.ownBlock=some b∧W.heap.size≤b)→wpList P ops Q rest (a.put o.dst v1) w1):wpList P ops Q (o::rest) a W:=
 rmake0_R (Kd.bare d) base e hgd _hd t x y ho n hx hy ht z bytes hinfo hs0 hb0 hfresh h0 hl HB hbase (fun v1 w1 hr=>h v1 w1 (Kd.S_bare (xs:=[]) hr))
end
def slices_Clone_int_int.f (l0:List Int):Option (List Int):=if l0.length < 8796093022208 then some l0 else none
set_option maxHeartbeats 8000000 in
theorem slices_Clone_int_int.calls (A0:Option Addr) (c0:Nat) (l0:List (Int)) (r:List (Int)) (w:World) (a0:Kd.C (Kd.int .i64) w A0 l0.length l0) (a1:l0.length≤c0) (h:slices_Clone_int_int.f l0=some r) :
  Calls Try.prog 70 #[.slice A0 l0.length c0] w fun e w'=>∃ a2:Value,e = .returned (a2)∧Kd.R (Kd.int .i64) 3 w' w.heap.size (fun _=>True) a2 r∧Below w.heap.size w w':=by
 unfold slices_Clone_int_int.f at h;by_cases hlt:l0.length < 8796093022208
 ·
  rw [if_pos hlt] at h;obtain rfl:=Option.some.inj h;have LM:=zzm hlt;clear hlt h;have a3:=zzm a0;have a7:=zzm a1;clear a0 a1;have HB:=zzm (Below.refl w.heap.size w);have a8:∀ (w:World) (a:Option Addr) (n c n' c' : Nat),(binOp .eql 45 (.slice a n c) (.slice none n' c')).run Try.prog w = .ok (.bool a.isNone) w:=fun w a n c n' c'=>Lib.run_eql_slice_nil w _ _ a n c n' c' Try.underlying45;cases A0 with
  | none=>
   have hl:l0 = []:=by
    cases l0 with
    | nil=>rfl
    | cons a l=>
     obtain ⟨ad,e,_⟩:=a3.out.2.2 (by simp);cases e
   subst hl;go_enter Try.func70,Try.ntmps70;go_wp2;go_ret;exact ⟨_,rfl,Kd.R_nil _ _ _ _ _,HB.out⟩
  | some ad=>
   obtain ⟨y,hy⟩:∃ y:List Int,y = []:=⟨_,rfl⟩;have Ny:=zzm hy;clear hy;go_enter Try.func70,Try.ntmps70;go_wp2_with (first
    | ((with_reducible refine gate_dst (N:=5) rfl ?_);refine Kd.R_lit (Kd.int .i64) _ 3 ?hg (N:=5) ?hd (xs:=([]:List (Int))) (inner:=[]) (ok:=fun _=>True) (okp:=fun _=>True) ?hr ?hp (fun _ hk=>hk) trivial (Below.refl _ _) (Nat.le_refl _) (by simp) ?_;(case hd=>rfl);(case hg=>rfl);(case hr=>first|(go_simp;done)|(go_simp;rfl));(case hp=>exact (Reps.none _ _));intro v1 w1 ho1 hb hg_ hnew_;clear hg_ hnew_;rw [← Ny.out] at ho1;have a4:=zzm (zzp HB.out hb);have a5:=zzm ho1;clear HB;have HB:=a4;have HO:=a5;clear a4 a5 hb ho1)
    | ((with_reducible refine gate_dst (N:=7) rfl ?_);refine Kd.R_append_rows (Kd.int .i64) (w0:=w) w.heap.size rfl (.tmp 5) (.tmp 6) 45 3 (.int .i64 0) 8 rfl Try.underlying45 info3 rfl (by decide) (by omega) v1 y l0 _ _ _ (fun _=>True) (fun _=>False) rfl rfl ?aO ?aR (fun _ _ h=>h) (fun _ h=>h.elim) ?aF ?aB ?aS ?aL ?_;(case aR=>exact (Kd.C_below a3.out HB.out));(case aB=>exact HB.out);(case aF=>exact fun _ _=>trivial);(case aO=>exact HO.out);(case aS=>exact HB.out.size);(case aL=>have:=LM.out;rw [Ny.out];simp only [List.length_nil];omega);intro v2 w2 ho2 hb2 hg2 hat2;rw [Ny.out,List.nil_append] at ho2;have a6:=zzm ho2;have HB2:=zzm hb2;clear ho2 hb2 hg2 hat2))
   go_ret;exact ⟨_,rfl,a6.out,HB2.out⟩
 ·
  rw [if_neg hlt] at h;cases h
def Ri.f (a0_0:Int) (a0_1:Int) (a0_2:Bool) (l0_3:List Int) (a0_4:Bool) (l0_5:List Int):Option (Int×Int×Bool×List Int×Bool×List Int):=(slices_Clone_int_int.f l0_3).bind fun t278=>((slices_Clone_int_int.f l0_5).bind fun t281=>(some (a0_0,a0_1,a0_2,t278,a0_4,t281)))
set_option maxHeartbeats 8000000 in
theorem Ri.calls (a2:Int) (a3:Int) (a5:Bool) (b3:Option Addr) (b4:Nat) (a7:List Int) (a8:Bool) (b1:Option Addr) (b2:Nat) (a6:List Int) (r1:Int) (r2:Int) (r3:Bool) (r4:List Int) (r5:Bool) (r6:List Int) (w:World) (c8:Kd.C (Kd.int .i64) w b3 a7.length a7) (c9:a7.length≤b4) (d0:Kd.C (Kd.int .i64) w b1 a6.length a6) (d1:a6.length≤b2) (h:Ri.f a2 a3 a5 a7 a8 a6=some (r1,r2,r3,r4,r5,r6)) :
  Calls Try.prog 65 #[.agg #[.int .i64 a2,.int .i64 a3,.bool a5,.slice b3 a7.length b4,.bool a8,.slice b1 a6.length b2]] w fun e w'=>∃ d3 d4:Value,e = .returned (.agg #[.int .i64 r1,.int .i64 r2,.bool r3,d3,.bool r5,d4])∧Kd.R (Kd.int .i64) 3 w' w.heap.size (fun k_=>some k_≠(d4:Value).ownBlock) d3 r4∧Kd.R (Kd.int .i64) 3 w' w.heap.size (fun k_=>some k_≠(d3:Value).ownBlock) d4 r6∧Below w.heap.size w w':=by
 have hu47:=Try.underlying47;have d5:=zzm c8;have d6:=zzm c9;clear c8 c9;have d7:=zzm d0;have d8:=zzm d1;clear d0 d1;have HB:=zzm (Below.refl w.heap.size w);have H:((slices_Clone_int_int.f a7).bind fun b0=>((slices_Clone_int_int.f a6).bind fun b5=>(some (a2,a3,a5,b0,a8,b5))))=some (r1,r2,r3,r4,r5,r6):=h;clear h;obtain ⟨b0,A2,H⟩:=zzG H;obtain ⟨b5,A3,H⟩:=zzG H;simp only [Option.some.injEq,Prod.mk.injEq] at H;obtain ⟨rfl,rfl,rfl,rfl,rfl,rfl⟩:=H;go_enter Try.func65,Try.ntmps65;go_wp2_with (first|((with_reducible refine gate_dst (N:=1) rfl ?_);refine box_event ?hg (N:=1) ?hd (cs:=#[.int .i64 a2,.int .i64 a3,.bool a5,.slice b3 a7.length b4,.bool a8,.slice b1 a6.length b2]) (t:=47) ?hr ?_;(case hd=>rfl);(case hg=>rfl);(case hr=>first|(go_simp;done)|(go_simp;rfl));intro a4 hg w4 hbox hb;have b6:=zzm (zzp zzh1 hb);have b7:=zzm (hbox);have b8:=zzm ((by rw [hg];exact (zzo zzh1):w.heap.size≤a4));have b9:=zzm ((by rw [hg];exact (zzo zzh1):w.heap.size≤a4));clear HB;have HB:=b6;have a1:=b7;have l4:=b8;have l5:=b9;clear b6 b7 b8 b9 hb hbox hg)|((with_reducible refine gate_dst (N:=2) rfl ?_);refine box_event ?hg (N:=2) ?hd (cs:=#[.int .i64 0,.int .i64 0,.bool false,.slice none 0 0,.bool false,.slice none 0 0]) (t:=47) ?hr ?_;(case hd=>rfl);(case hg=>rfl);(case hr=>first|(go_simp;done)|(go_simp;rfl));intro a0 hg w5 hbox hb;have b6:=zzm (zzh (g:=a4) (o:=.cells #[.int .i64 a2,.int .i64 a3,.bool a5,.slice b3 a7.length b4,.bool a8,.slice b1 a6.length b2] 47 (0,0)) (zzE a1.out) hb);have b7:=zzm (zzp zzh2 hb);have b8:=zzm (hbox);have b9:=zzm ((by rw [hg];exact (zzo zzh2):w.heap.size≤a0));have c6:=zzm ((by rw [hg];exact (zzo zzh2):w.heap.size≤a0));have d9:=zzm ((by rw [hg];exact Nat.ne_of_lt (blk_lt (g:=a4) (o:=.cells #[.int .i64 a2,.int .i64 a3,.bool a5,.slice b3 a7.length b4,.bool a8,.slice b1 a6.length b2] 47 (0,0)) (zzE a1.out)):a4≠a0));have e0:=zzm ((by rw [hg];exact Nat.ne_of_gt (blk_lt (g:=a4) (o:=.cells #[.int .i64 a2,.int .i64 a3,.bool a5,.slice b3 a7.length b4,.bool a8,.slice b1 a6.length b2] 47 (0,0)) (zzE a1.out)):a0≠a4));clear a1 HB;have a1:=b6;have HB:=b7;have a9:=b8;have l6:=b9;have l7:=c6;have c7:=d9;have c0:=e0;clear b6 b7 b8 b9 c6 d9 e0 hb hbox hg;have l8:=c7.out;have l9:=c0.out;obtain ⟨k0,k1,k2,k3,k4,k5,k6,k7,k8,k9,l2,l3⟩:=zzc6 a1.out)|((with_reducible refine gate_callee (f:=70) rfl ?_);refine goesL_ (some 5) rfl rfl Try.func70 (by kernel_rfl) rfl #[.slice b3 a7.length b4] rfl zzM2 ?_;(with_reducible refine (slices_Clone_int_int.calls _ _ a7 b0 _ ?side1 ?side2 A2.out).mono ?_);(case side1=>exact zzcb d5 HB);(case side2=>exact d6.out);rintro e w8 ⟨m0,rfl,ho0,hb⟩;refine ⟨_,rfl,?_⟩;have b6:=zzm (Kd.R_lower ho0 (zzo zzh2));have b7:=zzm (zzh (g:=a4) (o:=.cells #[.int .i64 a2,.int .i64 a3,.bool a5,.slice b3 a7.length b4,.bool a8,.slice b1 a6.length b2] 47 (0,0)) (zzE a1.out) hb);have b8:=zzm (zzh (g:=a0) (o:=.cells #[.int .i64 0,.int .i64 0,.bool false,.slice none 0 0,.bool false,.slice none 0 0] 47 (0,0)) (zzE a9.out) hb);have b9:=zzm (zzp zzh2 hb);clear a1 a9 HB;have c1:=b6;have a1:=b7;have a9:=b8;have HB:=b9;clear b6 b7 b8 b9;(try clear hb);(try clear hb2);(try clear hk);(try clear hi);(try clear ho0);obtain ⟨c2,c3,eo9⟩:=Kd.R_slice c1.out;subst eo9;obtain ⟨e1,e2,e3,e4,e5,e6,e7,e8,e9,g0,g1,g2⟩:=zzc6 a1.out)|((with_reducible refine gate_callee (f:=70) rfl ?_);refine goesL_ (some 9) rfl rfl Try.func70 (by kernel_rfl) rfl #[.slice b1 a6.length b2] rfl zzM2 ?_;(with_reducible refine (slices_Clone_int_int.calls _ _ a6 b5 _ ?side1 ?side2 A3.out).mono ?_);(case side1=>exact Kd.C_below d7.out zzh2);(case side2=>exact d8.out);rintro e m2 ⟨m1,rfl,ho0,hb⟩;refine ⟨_,rfl,?_⟩;have b6:=zzm (Kd.R_elder' (by (with_reducible repeat (first|apply Kd.R_alloc|apply Kd.R_drewN|apply Kd.R_drew));exact (Kd.R_mono (Kd.R_far (p:=⟨a4,3,none⟩) (Kd.R_types c1.out a1.out (by decide)) (fun _ hk=>hk.2) (.slice c2 b0.length c3)) (fun _ h_=>h_.1))) (Kd.R_base ho0) hb);have b7:=zzm (Kd.R_lower (Kd.R_new' ho0 (Kd.R_lt (by (with_reducible repeat (first|apply Kd.R_alloc|apply Kd.R_drewN|apply Kd.R_drew));exact (Kd.R_mono (Kd.R_far (p:=⟨a4,3,none⟩) (Kd.R_types c1.out a1.out (by decide)) (fun _ hk=>hk.2) (.slice c2 b0.length c3)) (fun _ h_=>h_.1))))) (zzo zzh2));have b8:=zzm (zzh (g:=a4) (o:=.cells #[.int .i64 a2,.int .i64 a3,.bool a5,.slice c2 b0.length c3,.bool a8,.slice b1 a6.length b2] 47 (0,0)) (by (with_reducible repeat (first|apply zzf|apply zzg|apply zze));refine zzi (cs:=#[.int .i64 a2,.int .i64 a3,.bool a5,.slice b3 a7.length b4,.bool a8,.slice b1 a6.length b2]) ?_ 3 _ rfl;(with_reducible repeat (first|apply zzf|apply zzg|apply zze));exact a1.out) hb);have b9:=zzm (zzh (g:=a0) (o:=.cells #[.int .i64 0,.int .i64 0,.bool false,.slice none 0 0,.bool false,.slice none 0 0] 47 (0,0)) (by (with_reducible repeat (first|apply zzf|apply zzg|apply zze));refine zzj ?_ c0.out _;(with_reducible repeat (first|apply zzf|apply zzg|apply zze));exact a9.out) hb);have c6:=zzm (zzp zzh2 hb);clear c1 a1 a9 HB;have c1:=b6;have d2:=b7;have a1:=b8;have a9:=b9;have HB:=c6;clear b6 b7 b8 b9 c6;(try clear hb);(try clear hb2);(try clear hk);(try clear hi);(try clear ho0);obtain ⟨c4,c5,eo12⟩:=Kd.R_slice d2.out;subst eo12;obtain ⟨g3,g4,g5,g6,g7,g8,g9,h0,h1,h2,h3,h4⟩:=zzc6 a1.out;obtain ⟨h5,h6,h7,h8,h9,j3,j4,j5,j6,j7,j8,j9⟩:=zzc6 a9.out));refine bodyPost_ret (results_cell_row rfl _ _ a0 47 #[.int .i64 a2,.int .i64 a3,.bool a5,.slice c2 b0.length c3,.bool a8,.slice c4 b5.length c5] (0,0) _ rfl (by (with_reducible repeat (first|apply zzf|apply zzg|apply zze));refine zzi (cs:=#[.int .i64 a2,.int .i64 a3,.bool a5,.slice c2 b0.length c3,.bool a8,.slice none 0 0]) ?_ 5 _ rfl;refine zzi (cs:=#[.int .i64 a2,.int .i64 a3,.bool a5,.slice c2 b0.length c3,.bool false,.slice none 0 0]) ?_ 4 _ rfl;refine zzi (cs:=#[.int .i64 a2,.int .i64 a3,.bool a5,.slice none 0 0,.bool false,.slice none 0 0]) ?_ 3 _ rfl;refine zzi (cs:=#[.int .i64 a2,.int .i64 a3,.bool false,.slice none 0 0,.bool false,.slice none 0 0]) ?_ 2 _ rfl;refine zzi (cs:=#[.int .i64 a2,.int .i64 0,.bool false,.slice none 0 0,.bool false,.slice none 0 0]) ?_ 1 _ rfl;refine zzi (cs:=#[.int .i64 0,.int .i64 0,.bool false,.slice none 0 0,.bool false,.slice none 0 0]) ?_ 0 _ rfl;(with_reducible repeat (first|apply zzf|apply zzg|apply zze));refine zzj ?_ c0.out _;(with_reducible repeat (first|apply zzf|apply zzg|apply zze));exact a9.out) Try.underlying47 rfl (by kernel_rfl)) rfl ?_;exact ⟨_,_,zzR,by (with_reducible repeat (first|apply Kd.R_alloc|apply Kd.R_drewN|apply Kd.R_drew));exact Kd.R_mono (Kd.R_far (p:=⟨a0,5,none⟩) (Kd.R_far (p:=⟨a0,4,none⟩) (Kd.R_far (p:=⟨a0,3,none⟩) (Kd.R_far (p:=⟨a0,2,none⟩) (Kd.R_far (p:=⟨a0,1,none⟩) (Kd.R_far (p:=⟨a0,0,none⟩) (Kd.R_far (p:=⟨a4,5,none⟩) (Kd.R_types (Kd.R_types c1.out a1.out (by decide)) a9.out (by decide)) (fun _ hk=>hk.1.2) (.slice c4 b5.length c5)) (fun _ hk=>hk.2) (.int .i64 a2)) (fun _ hk=>hk.2) (.int .i64 a3)) (fun _ hk=>hk.2) (.bool a5)) (fun _ hk=>hk.2) (.slice c2 b0.length c3)) (fun _ hk=>hk.2) (.bool a8)) (fun _ hk=>hk.2) (.slice c4 b5.length c5)) (fun _ hk=>hk.1.1.2),by (with_reducible repeat (first|apply Kd.R_alloc|apply Kd.R_drewN|apply Kd.R_drew));exact Kd.R_mono (Kd.R_far (p:=⟨a0,5,none⟩) (Kd.R_far (p:=⟨a0,4,none⟩) (Kd.R_far (p:=⟨a0,3,none⟩) (Kd.R_far (p:=⟨a0,2,none⟩) (Kd.R_far (p:=⟨a0,1,none⟩) (Kd.R_far (p:=⟨a0,0,none⟩) (Kd.R_far (p:=⟨a4,5,none⟩) (Kd.R_types (Kd.R_types d2.out a1.out (by decide)) a9.out (by decide)) (fun _ hk=>hk.1.2) (.slice c4 b5.length c5)) (fun _ hk=>hk.2) (.int .i64 a2)) (fun _ hk=>hk.2) (.int .i64 a3)) (fun _ hk=>hk.2) (.bool a5)) (fun _ hk=>hk.2) (.slice c2 b0.length c3)) (fun _ hk=>hk.2) (.bool a8)) (fun _ hk=>hk.2) (.slice c4 b5.length c5)) (fun _ hk=>hk.1.1.2),zzh3⟩

set_option linter.unusedVariables false
set_option linter.unusedSimpArgs false
section
def kA:Kd S47 where
 sz:=k47.sz
 E:=k47.E
 K:=k47.K
 M:=fun w base ok x cs=>∃ v3 v5:Value,cs = [.int .i64 x.f0,.int .i64 x.f1,.bool x.f2,v3,.bool x.f4,v5]∧Kd.R (Kd.int .i64) 3 w base (fun k=>ok k∧some k≠v5.ownBlock) v3 x.f3∧Kd.R (Kd.int .i64) 3 w base (fun k=>ok k∧some k≠v3.ownBlock) v5 x.f5
 K_len:=k47.K_len
 K_one:=k47.K_one
 K_below:=k47.K_below
 K_of_M:=by
  rintro w base ok x cs ⟨v3,v5,rfl,h3,h5⟩;exact k47.K_of_M (k47_mkM w base ok x (Kd.R_mono h3 fun _ h=>h.1) (Kd.R_mono h5 fun _ h=>h.1))
 M_mono:=by
  rintro w base ok ok' x cs hok ⟨v3,v5,rfl,h3,h5⟩;exact ⟨v3,v5,rfl,Kd.R_mono h3 fun k h=>⟨hok k h.1,h.2⟩,Kd.R_mono h5 fun k h=>⟨hok k h.1,h.2⟩⟩
 M_bound:=by
  rintro w base ok x cs ⟨v3,v5,rfl,h3,h5⟩;have hE:∀ q,q∈3::(Kd.int .i64).E→q∈k47.E:=by decide
  exact ⟨v3,v5,rfl,Kd.R_mono (Kd.R_bound h3) fun k h=>⟨⟨h.1.1,h.2.1,h.2.2.1,h.2.2.2.imp fun q hq=>⟨hE q hq.1,hq.2⟩⟩,h.1.2⟩,Kd.R_mono (Kd.R_bound h5) fun k h=>⟨⟨h.1.1,h.2.1,h.2.2.1,h.2.2.2.imp fun q hq=>⟨hE q hq.1,hq.2⟩⟩,h.1.2⟩⟩
 M_move:=by
  rintro w w1 base ok x cs hm ⟨v3,v5,rfl,h3,h5⟩;exact ⟨v3,v5,rfl,Kd.R_move h3 fun k h=>hm k h.1,Kd.R_move h5 fun k h=>hm k h.1⟩
 M_lower:=by
  rintro w base base' ok x cs hb ⟨v3,v5,rfl,h3,h5⟩;exact ⟨v3,v5,rfl,Kd.R_lower h3 hb,Kd.R_lower h5 hb⟩
theorem S_weakA {e base:Nat} {w:World} {ok:Nat→Prop} {v:Value} {xs:List S47} (h:Kd.S kA e w base ok v xs):Kd.S k47 e w base ok v xs:=by
 obtain ⟨f,h0,inner,ho,hr⟩:=h;refine ⟨f,h0,inner,ho,hr.imp_ (fun p cs hp=>?_)⟩;obtain ⟨v3,v5,e,h3,h5⟩:=hp;subst e;exact k47_mkM _ _ _ _ (Kd.R_mono h3 fun _ h=>h.1) (Kd.R_mono h5 fun _ h=>h.1)
open Classical in
theorem S_append_rows {α:Type} (d:Kd α) {P:Program} {ops:Array Oper} {rest:List Oper} {o:Oper} {a:Act} {Q:Exit→Act→World→Prop} {w0 W:World} (base:Nat) (hgd:o.guard=none) (s x:Operand) (t e:TypeId) (z:Value) (bytes:Nat)
  (ho:o.op = .call { callee:=.builtin .append,args:=#[s,x],argTypes:=#[t,t] })
  (ht:P.underlying t=some (.slice e)) (hinfo:(P.info? e).map (fun i=>(i.zero,i.size,i.bytes))=some (some z,d.sz,bytes)) (hz:z.cells.size=d.sz) (hs0 : 0 < d.sz) (hb0 : 0 < bytes)
  (v:Value) (xs ys:List α) (A:Option Addr) (m c:Nat) (ok okp:Nat→Prop) (hs:a.eval s=v) (hx:a.eval x = .slice A m c)
  (HO:Kd.S d e W base (fun k=>ok k∧¬ okp k) v xs) (HR:Kd.S d e W base okp (.slice A m c) ys) (hokp:∀ k,okp k→ok k∧some k≠v.ownBlock) (hfresh:∀ k,W.heap.size≤k→ok k)
  (HB:Below base w0 W) (hbase:base≤W.heap.size) (hl:(xs.length+m) * bytes≤140737488355328)
  (h:∀ v1 w1,Kd.S d e w1 base ok v1 (xs++ys)→Below base w0 w1→W.grownBy w1 v.ownBlock→(v1.ownBlock=v.ownBlock∨∃ b,v1.ownBlock=some b∧W.heap.size≤b)→wpList P ops Q rest (a.put o.dst v1) w1) :
  wpList P ops Q (o::rest) a W:=by
 obtain ⟨f1,h1⟩:=HO;obtain ⟨f2,h2⟩:=HR;obtain ⟨f3,hf3⟩:∃ f3:Nat→Nat,f3=fun k=>if okp k then f2 k+xs.length else f1 k:=⟨_,rfl⟩;have h1' : (Kd.tag f3 d).R e W base ok v xs.zipIdx:=Kd.R_mono (Kd.R_tag h1 (fun k hk _=>by rw [hf3];exact if_neg hk.2)) (fun _ hk=>hk.1);have hread:ReadsRow ((Kd.tag f3 d).M W base okp) d.sz W A m (ys.zipIdx xs.length):=by
  obtain ⟨A',c',he,_,hr⟩:=OwnRow.reads h2.2;injection he with e1 e2 _;subst e1;refine ⟨by rw [List.length_zipIdx,e2,List.length_zipIdx],by rw [e2];exact hr.2.1,fun hn=>?_⟩;obtain ⟨ad,e,hc⟩:=hr.2.2 (by rw [← e2];exact hn);refine ⟨ad,e,fun j p hj=>?_⟩;rw [List.getElem?_zipIdx] at hj;obtain ⟨y,hy,rfl⟩:=Option.map_eq_some_iff.1 hj;obtain ⟨c,hs,hM,hcell⟩:=hc j (y,j) (Kd.zip_at hy);refine ⟨c,hs,d.M_mono (fun k hk=>⟨hk.1.1,?_⟩) hM,hcell⟩;show f3 k=xs.length+j;have h3:f2 k=j:=hk.2;rw [hf3];simp only [if_pos hk.1.1,h3,Nat.add_comm]
 refine Kd.R_append_rows (Kd.tag f3 d) base hgd s x t e z bytes ho ht hinfo hz hs0 hb0 v xs.zipIdx (ys.zipIdx xs.length) A m c ok okp hs hx h1' hread (fun _ _ h=>h) hokp hfresh HB hbase (by rw [List.length_zipIdx];exact hl) ?_;intro v1 w1 hr hb hg hat;refine h v1 w1 ⟨f3,?_⟩ hb hg hat;rw [List.zipIdx_append,Nat.zero_add];exact hr
end
def Qo.l0:Nat→List (S47)→List (S47)→Int→Int→Option ((List (S47)))
 | 0,_,_,_,_=>none
 | k+1,x3,x9,x10,x11=>if x11 < x10 then (if 0≤x11 then (if x11 < (x9.length:Int) then ((Ri.f ((Qb x9 x11).f0) ((Qb x9 x11).f1) ((Qb x9 x11).f2) ((Qb x9 x11).f3) ((Qb x9 x11).f4) ((Qb x9 x11).f5)).bind fun bt289=>(if x3.length < 1759218604441 then (Qo.l0 k (x3 ++ [(⟨bt289.1,bt289.2.1,bt289.2.2.1,bt289.2.2.2.1,bt289.2.2.2.2.1,bt289.2.2.2.2.2⟩:S47)]) x9 x10 (wrap64 (x11+1))) else (none))) else (none)) else (none)) else (some x3)
def Qo.f (k:Nat) (l0:List (S47)):Option ((List (S47))):=if 0≤(l0.length:Int) then (if ((l0.length:Int):Int).toNat≤3518437208883 then (Qo.l0 k (([]:List (S47))) l0 (l0.length:Int) 0) else (none)) else (none)
set_option maxHeartbeats 8000000 in
theorem Qo.calls (k:Nat) (A0:Option Addr) (c0:Nat) (l0:List (S47)) (r:List (S47)) (w:World) (g2:Kd.C k47 w A0 l0.length l0) (g3:l0.length≤c0) (h:Qo.f k l0=some r) :
  Calls Try.prog 55 #[.slice A0 l0.length c0] w fun e w'=>∃ g4:Value,e = .returned (g4)∧Kd.S kA 47 w' w.heap.size (fun _=>True) g4 r∧Below w.heap.size w w':=by
 have hu47:=Try.underlying47;have j7:=zzm g2;have k9:=zzm g3;clear g2 g3;have HB:=zzm (Below.refl w.heap.size w);have H:(if 0≤(l0.length:Int) then (if ((l0.length:Int):Int).toNat≤3518437208883 then (Qo.l0 k (([]:List (S47))) l0 (l0.length:Int) 0) else (none)) else (none))=some r:=h;clear h;by_cases c2 : 0≤(l0.length:Int)
 ·
  rw [if_pos c2] at H;have g6:=eq_true c2;have g7:decide (0≤(l0.length:Int))=true:=decide_eq_true c2;clear c2;by_cases c3:((l0.length:Int):Int).toNat≤3518437208883
  ·
   rw [if_pos c3] at H;have g8:=eq_true c3;have g9:decide (((l0.length:Int):Int).toNat≤3518437208883)=true:=decide_eq_true c3;clear c3;obtain ⟨y284,hy284⟩:∃ y_:List (S47),y_=(([]:List (S47))):=⟨_,rfl⟩;replace H:(Qo.l0 k y284 l0 (l0.length:Int) 0)=some r:=by first|(rw [hy284];with_reducible exact H)|(have H2_:=(Option.bind_some _ _).symm.trans H;rw [hy284];with_reducible exact H2_)|(have H2_:=(Option.bind_some _ _).symm.trans H;with_reducible exact H2_)|with_reducible exact H|(rw [hy284];exact H)|exact H
   have Ny284:=zzm hy284;clear hy284;have H':=zzm H;clear H;go_enter Try.func55,Try.ntmps55;go_wp2_with (first|((with_reducible refine gate_dst (N:=8) rfl ?_);refine rmake0_S kA _ 47 rfl (N:=8) rfl 37 _ _ rfl (l0.length:Int) rfl rfl Try.underlying37 (.agg #[(.int .i64 0),(.int .i64 0),(.bool false),(.slice none 0 0),(.bool false),(.slice none 0 0)]) 80 info47 (by decide) (by omega) (ok:=fun _=>True) (trivial) (zzt) (Nat.le_trans (Nat.mul_le_mul_right _ (zzt:(l0.length:Int).toNat≤3518437208883)) (by omega)) (Below.refl _ _) (Nat.le_refl _) ?_;intro k3 w4 ho5 hb hg_ hnew_;clear hg_ hnew_;(first|rw [← Ny284.out] at ho5|(simp only [Int.reduceToNat] at ho5;rw [← Ny284.out] at ho5));have a6:=zzm (Kd.S_lower ho5 (zzo zzh1));have a7:=zzm (zzp zzh1 hb);clear HB;have g0:=a6;have HB:=a7;clear a6 a7 hb ho5));go_loopg [3,11] k (fun kq v3 j8 w'=>∃ (a8:List (S47)) (a0:Int),j8 = .int .i64 a0∧Aside0 (Qo.l0 kq a8 l0 (l0.length:Int) a0=some r)∧Aside0 (kq≤k)∧Aside0 (Kd.S kA 47 w' w.heap.size (fun _=>True) v3 a8)∧Aside0 (Below w.heap.size w w'))
   case atStart=>exact ⟨(y284),(0),(by first|rfl|(simp;done)|(simp [*];done)),H',⟨Nat.le_refl _⟩,⟨by (with_reducible repeat (first|apply Kd.S_alloc|apply Kd.S_drewN|apply Kd.S_drew));exact g0.out⟩,⟨zzh1⟩⟩
   case round=>
    clear H';try clear c2
    try clear g6
    try clear g7
    try clear p2
    try clear c3
    try clear g8
    try clear g9
    try clear c5
    obtain ⟨a8,a0,rfl,HA,HK1,a3,HB⟩:=hrel;cases gk with
    | zero=>exact absurd HA.out (by simp [Qo.l0])
    | succ k1=>
     have H:=HA.out;clear HA;simp only [Qo.l0] at H;by_cases c6:a0 < (l0.length:Int)
     ·
      rw [if_pos c6] at H;have h0:decide (a0 < (l0.length:Int))=true:=decide_eq_true c6;clear c6;by_cases c7 : 0≤a0
      ·
       rw [if_pos c7] at H;have k4:decide (0≤a0)=true:=decide_eq_true c7;clear c7;by_cases c8:a0 < (l0.length:Int)
       ·
        rw [if_pos c8] at H;have k5:decide (a0 < (l0.length:Int))=true:=decide_eq_true c8;clear c8;replace H:=zzH H;obtain ⟨⟨b5,b6,b7,b1,b8,b2⟩,g5,H⟩:=H;replace H:(if a8.length < 1759218604441 then (Qo.l0 k1 (a8 ++ [(⟨b5,b6,b7,b1,b8,b2⟩:S47)]) l0 (l0.length:Int) (wrap64 (a0+1))) else (none))=some r:=H;have A9:=zzm g5;clear g5;by_cases e1:a8.length < 1759218604441
        ·
         rw [if_pos e1] at H;have LMc10:=zzm e1;clear e1;obtain ⟨y299,hy299⟩:∃ y_:List (S47),y_=(a8 ++ [(⟨b5,b6,b7,b1,b8,b2⟩:S47)]):=⟨_,rfl⟩;replace H:(Qo.l0 k1 y299 l0 (l0.length:Int) (wrap64 (a0+1)))=some r:=by first|(rw [hy299];with_reducible exact H)|(have H2_:=(Option.bind_some _ _).symm.trans H;rw [hy299];with_reducible exact H2_)|(have H2_:=(Option.bind_some _ _).symm.trans H;with_reducible exact H2_)|with_reducible exact H|(rw [hy299];exact H)|exact H
         have Ny299:=zzm hy299;clear hy299;have H':=zzm H;clear H;have d9 : 0≤(a0:Int):=zzt;have e0:a0 < (l0.length:Int):=zzt;obtain ⟨j9,a4,a5,a9,b0,h1,c1,c4,c9,d0,d1,d2,d3,d4,d5,d6⟩:=Qs j7.out a0 d9 e0;cases h1;replace c1:=zzx HB.out c1;replace c4:=zzx HB.out c4;replace c9:=zzx HB.out c9;replace d0:=zzx HB.out d0;replace d1:=zzx HB.out d1;replace d2:=zzx HB.out d2;have e2:=zzm d4;have e3:=zzm d3;clear d4 d3;have e4:=zzm d6;have e5:=zzm d5;clear d6 d5;replace d9:=eq_true d9;replace e0:=eq_true e0;go_wp2_with (first|((with_reducible refine gate_dst (N:=5) rfl ?_);refine box_event ?hg (N:=5) ?hd (cs:=#[.int .i64 0,.int .i64 0,.bool false,.slice none 0 0,.bool false,.slice none 0 0]) (t:=47) ?hr ?_;(case hd=>rfl);(case hg=>rfl);(case hr=>first|(go_simp;done)|(go_simp;rfl));intro a1 hg l2 hbox hb;have a6:=zzm (Kd.S_below (Kd.S_elderB (zzS a3.out) a1 (Nat.le_of_eq hg.symm)) hb);have a7:=zzm (zzp zzh1 hb);have b9:=zzm (hbox);have d7:=zzm ((by rw [hg];exact (zzo zzh1):w.heap.size≤a1));have d8:=zzm ((by rw [hg];exact (zzo zzh1):w.heap.size≤a1));clear a3 HB;have a3:=a6;have HB:=a7;have a2:=b9;have k0:=d7;have k2:=d8;clear a6 a7 b9 d7 d8 hb hbox hg;obtain ⟨h2,h3,h4,h5,h6,h7,h8,h9,j3,j4,j5,j6⟩:=zzc6 a2.out)|((with_reducible refine gate_callee (f:=65) rfl ?_);refine goesL_ (some 17) rfl rfl Try.func65 (by kernel_rfl) rfl #[.agg #[.int .i64 ((Qb l0 a0).f0),.int .i64 ((Qb l0 a0).f1),.bool ((Qb l0 a0).f2),.slice a4 ((Qb l0 a0).f3).length a5,.bool ((Qb l0 a0).f4),.slice a9 ((Qb l0 a0).f5).length b0]] rfl zzM2 ?_;(with_reducible refine (Ri.calls ((Qb l0 a0).f0) ((Qb l0 a0).f1) ((Qb l0 a0).f2) _ _ ((Qb l0 a0).f3) ((Qb l0 a0).f4) _ _ ((Qb l0 a0).f5) b5 b6 b7 b1 b8 b2 _ ?side1 ?side2 ?side3 ?side4 A9.out).mono ?_);(case side1=>exact Kd.C_below e2.out zzh2);(case side2=>exact e3.out);(case side3=>exact Kd.C_below e4.out zzh2);(case side4=>exact e5.out);rintro e l3 ⟨k6,k7,rfl,ho0,ho1,hb⟩;refine ⟨_,rfl,?_⟩;have a6:=zzm (Kd.S_mono (Kd.S_told (Kd.S_told (Kd.S_old (zzS ((Kd.S_mono (Kd.S_far (p:=⟨a1,5,none⟩) (Kd.S_far (p:=⟨a1,4,none⟩) (Kd.S_far (p:=⟨a1,3,none⟩) (Kd.S_far (p:=⟨a1,2,none⟩) (Kd.S_far (p:=⟨a1,1,none⟩) (Kd.S_far (p:=⟨a1,0,none⟩) (Kd.S_mono a3.out (fun k_ hk=>(⟨hk,hk.2⟩:_∧k_≠a1))) (fun _ hk=>hk.2) (.int .i64 ((Qb l0 a0).f0))) (fun _ hk=>hk.2) (.int .i64 ((Qb l0 a0).f1))) (fun _ hk=>hk.2) (.bool ((Qb l0 a0).f2))) (fun _ hk=>hk.2) (.slice a4 ((Qb l0 a0).f3).length a5)) (fun _ hk=>hk.2) (.bool ((Qb l0 a0).f4))) (fun _ hk=>hk.2) (.slice a9 ((Qb l0 a0).f5).length b0)) (fun _ h_=>h_.1)))) hb) (Kd.R_base ho0)) (Kd.R_base ho1)) (fun _ h_=>h_.1));have a7:=zzm (Kd.R_lower ho0 (zzo zzh2));have b9:=zzm (Kd.R_lower ho1 (zzo zzh2));have d7:=zzm (zzh (g:=a1) (o:=.cells #[.int .i64 ((Qb l0 a0).f0),.int .i64 ((Qb l0 a0).f1),.bool ((Qb l0 a0).f2),.slice a4 ((Qb l0 a0).f3).length a5,.bool ((Qb l0 a0).f4),.slice a9 ((Qb l0 a0).f5).length b0] 47 (0,0)) (by (with_reducible repeat (first|apply zzf|apply zzg|apply zze));refine zzi (cs:=#[.int .i64 ((Qb l0 a0).f0),.int .i64 ((Qb l0 a0).f1),.bool ((Qb l0 a0).f2),.slice a4 ((Qb l0 a0).f3).length a5,.bool ((Qb l0 a0).f4),.slice none 0 0]) ?_ 5 _ rfl;refine zzi (cs:=#[.int .i64 ((Qb l0 a0).f0),.int .i64 ((Qb l0 a0).f1),.bool ((Qb l0 a0).f2),.slice a4 ((Qb l0 a0).f3).length a5,.bool false,.slice none 0 0]) ?_ 4 _ rfl;refine zzi (cs:=#[.int .i64 ((Qb l0 a0).f0),.int .i64 ((Qb l0 a0).f1),.bool ((Qb l0 a0).f2),.slice none 0 0,.bool false,.slice none 0 0]) ?_ 3 _ rfl;refine zzi (cs:=#[.int .i64 ((Qb l0 a0).f0),.int .i64 ((Qb l0 a0).f1),.bool false,.slice none 0 0,.bool false,.slice none 0 0]) ?_ 2 _ rfl;refine zzi (cs:=#[.int .i64 ((Qb l0 a0).f0),.int .i64 0,.bool false,.slice none 0 0,.bool false,.slice none 0 0]) ?_ 1 _ rfl;refine zzi (cs:=#[.int .i64 0,.int .i64 0,.bool false,.slice none 0 0,.bool false,.slice none 0 0]) ?_ 0 _ rfl;(with_reducible repeat (first|apply zzf|apply zzg|apply zze));exact a2.out) hb);have d8:=zzm (zzp zzh2 hb);clear a3 a2 HB;have a3:=a6;have b3:=a7;have b4:=b9;have a2:=d7;have HB:=d8;clear a6 a7 b9 d7 d8;(try clear hb);(try clear hb2);(try clear hk);(try clear hi);(try clear ho0);(try clear ho1);obtain ⟨e6,e7,eo15⟩:=Kd.R_slice b3.out;subst eo15;obtain ⟨e8,e9,eo16⟩:=Kd.R_slice b4.out;subst eo16)|((with_reducible refine gate_builtin (b:=.append) (xs:=#[.tmp 15,.tmp 18]) rfl ?_);at_builtin;refine Kd.S_append kA (w0:=w) w.heap.size rfl (.tmp 15) (.tmp 18) 37 47 (.agg #[(.int .i64 0),(.int .i64 0),(.bool false),(.slice none 0 0),(.bool false),(.slice none 0 0)]) 80 rfl Try.underlying37 info47 rfl (by decide) (by omega) u3 a8 (⟨b5,b6,b7,b1,b8,b2⟩:S47) [.int .i64 b5,.int .i64 b6,.bool b7,.slice e6 b1.length e7,.bool b8,.slice e8 b2.length e9] (fun k_=>k_≠a1) (fun k_=>some k_=(.slice e6 b1.length e7:Value).ownBlock∨some k_=(.slice e8 b2.length e9:Value).ownBlock) rfl rfl ?aP (fun k_ hk_=>hk_.elim (fun h_=>((Kd.R_mono (ok':=fun k_=>((fun k_=>k_≠a1)) k_∧some k_≠(u3:Value).ownBlock) (Kd.R_types (Kd.R_apart' (b3.out) (Kd.S_typed a3.out) (by decide)) a2.out (by decide)) (fun k_ hk=>⟨hk.2,hk.1.2⟩))).1 k_ h_.symm) (fun h_=>((Kd.R_mono (ok':=fun k_=>((fun k_=>k_≠a1)) k_∧some k_≠(u3:Value).ownBlock) (Kd.R_types (Kd.R_apart' (b4.out) (Kd.S_typed a3.out) (by decide)) a2.out (by decide)) (fun k_ hk=>⟨hk.2,hk.1.2⟩))).1 k_ h_.symm)) ?aF ?aO ?aB ?aS ?aL ?_;(case aP=>exact (show kA.M _ _ _ (⟨b5,b6,b7,b1,b8,b2⟩:S47) _ from ⟨_,_,rfl,Kd.R_mono (Kd.R_tight rfl b3.out) (fun k_ h_=>⟨Or.inl h_,b3.out.1 k_ h_.symm⟩),Kd.R_mono (Kd.R_tight rfl b4.out) (fun k_ h_=>⟨Or.inr h_,b4.out.1 k_ h_.symm⟩)⟩));(case aB=>exact zzh2);(case aF=>exact (fun k_ hk=>Kd.freshB (g:=a1) (o:=.cells #[.int .i64 ((Qb l0 a0).f0),.int .i64 ((Qb l0 a0).f1),.bool ((Qb l0 a0).f2),.slice a4 ((Qb l0 a0).f3).length a5,.bool ((Qb l0 a0).f4),.slice a9 ((Qb l0 a0).f5).length b0] 47 (0,0)) (zzE a2.out) k_ hk));(case aO=>exact (zzS (Kd.S_mono a3.out (fun k_ hk=>⟨hk.1.1.2,fun e_=>e_.elim (fun h_=>hk.1.2 h_) (fun h_=>hk.2 h_)⟩))));(case aS=>exact (zzo zzh2));(case aL=>have:=LMc10.out;omega);intro k8 l4 ho hb hg hat;rw [← Ny299.out] at ho;have a6:=zzm (blk_grown (g:=a1) (o:=.cells #[.int .i64 ((Qb l0 a0).f0),.int .i64 ((Qb l0 a0).f1),.bool ((Qb l0 a0).f2),.slice a4 ((Qb l0 a0).f3).length a5,.bool ((Qb l0 a0).f4),.slice a9 ((Qb l0 a0).f5).length b0] 47 (0,0)) (zzE a2.out) hg (Kd.S_away a3.out (fun _ hk=>hk.1.1.2)));have a7:=zzm (hb);have b9:=zzm (ho);clear a2 HB a3 b3 b4;have a2:=a6;have HB:=a7;have g1:=b9;clear a6 a7 b9 ho hb hg hat));go_roundg k1
         case measure=>have:=HK1.out;omega
         case rel=>exact ⟨(y299),(wrap64 (a0+1)),(by first|rfl|(simp;done)|(simp [*];done)),H',⟨by have:=HK1.out;omega⟩,⟨by (with_reducible repeat (first|apply Kd.S_alloc|apply Kd.S_drewN|apply Kd.S_drew));exact Kd.S_mono g1.out (fun _ hk=>trivial)⟩,⟨zzh3⟩⟩
        ·
         rw [if_neg e1] at H;exact absurd H (by simp)
       ·
        rw [if_neg c8] at H;exact absurd H (by simp)
      ·
       rw [if_neg c7] at H;exact absurd H (by simp)
     ·
      rw [if_neg c6] at H;have h0:decide (a0 < (l0.length:Int))=false:=decide_eq_false c6;clear c6;obtain rfl:=Option.some.inj H;go_wp2;go_ret;exact ⟨_,zzR,by (with_reducible repeat (first|apply Kd.S_alloc|apply Kd.S_drewN|apply Kd.S_drew));exact a3.out,zzh1⟩
  ·
   rw [if_neg c3] at H;exact absurd H (by simp)
 ·
  rw [if_neg c2] at H;exact absurd H (by simp)

set_option linter.unusedVariables false
set_option linter.unusedSimpArgs false
def Rq.f (k:Nat) (a0_0:Bool) (a0_1:Bool) (a0_2:Int) (a0_3:Int) (a0_4:Int) (l0_5:List (S47)):Option (Bool×Bool×Int×Int×Int×(List (S47))):=(Qo.f k l0_5).bind fun t304=>(some (a0_0,a0_1,a0_2,a0_3,a0_4,t304))
set_option maxHeartbeats 8000000 in
theorem Rq.callsA (k:Nat) (a1:Bool) (a2:Bool) (a4:Int) (a6:Int) (a8:Int) (a9:Option Addr) (b0:Nat) (a5:List (S47)) (r1:Bool) (r2:Bool) (r3:Int) (r4:Int) (r5:Int) (r6:List (S47)) (w:World) (b9:Kd.C k47 w a9 a5.length a5) (c0:a5.length≤b0) (h:Rq.f k a1 a2 a4 a6 a8 a5=some (r1,r2,r3,r4,r5,r6)) :
  Calls Try.prog 37 #[.agg #[.bool a1,.bool a2,.int .i64 a4,.int .i64 a6,.int .i64 a8,.slice a9 a5.length b0]] w fun e w'=>∃ c6:Value,e = .returned (.agg #[.bool r1,.bool r2,.int .i64 r3,.int .i64 r4,.int .i64 r5,c6])∧Kd.S kA 47 w' w.heap.size (fun _=>True) c6 r6∧Below w.heap.size w w':=by
 have hu39:=Try.underlying39;have c4:=zzm b9;have c5:=zzm c0;clear b9 c0;have HB:=zzm (Below.refl w.heap.size w);have H:((Qo.f k a5).bind fun b2=>(some (a1,a2,a4,a6,a8,b2)))=some (r1,r2,r3,r4,r5,r6):=h;clear h;obtain ⟨b2,A2,H⟩:=zzG H;simp only [Option.some.injEq,Prod.mk.injEq] at H;obtain ⟨rfl,rfl,rfl,rfl,rfl,rfl⟩:=H;go_enter Try.func37,Try.ntmps37;go_wp2_with (first|((with_reducible refine gate_dst (N:=1) rfl ?_);refine box_event ?hg (N:=1) ?hd (cs:=#[.bool a1,.bool a2,.int .i64 a4,.int .i64 a6,.int .i64 a8,.slice a9 a5.length b0]) (t:=39) ?hr ?_;(case hd=>rfl);(case hg=>rfl);(case hr=>first|(go_simp;done)|(go_simp;rfl));intro a7 hg w3 hbox hb;have b3:=zzm (zzp zzh1 hb);have b4:=zzm (hbox);have b5:=zzm ((by rw [hg];exact (zzo zzh1):w.heap.size≤a7));have b6:=zzm ((by rw [hg];exact (zzo zzh1):w.heap.size≤a7));clear HB;have HB:=b3;have a3:=b4;have h6:=b5;have h7:=b6;clear b3 b4 b5 b6 hb hbox hg)|((with_reducible refine gate_dst (N:=2) rfl ?_);refine box_event ?hg (N:=2) ?hd (cs:=#[.bool false,.bool false,.int .i64 0,.int .i64 0,.int .i64 0,.slice none 0 0]) (t:=39) ?hr ?_;(case hd=>rfl);(case hg=>rfl);(case hr=>first|(go_simp;done)|(go_simp;rfl));intro a0 hg w4 hbox hb;have b3:=zzm (zzh (g:=a7) (o:=.cells #[.bool a1,.bool a2,.int .i64 a4,.int .i64 a6,.int .i64 a8,.slice a9 a5.length b0] 39 (0,0)) (zzE a3.out) hb);have b4:=zzm (zzp zzh2 hb);have b5:=zzm (hbox);have b6:=zzm ((by rw [hg];exact (zzo zzh2):w.heap.size≤a0));have c7:=zzm ((by rw [hg];exact (zzo zzh2):w.heap.size≤a0));have c8:=zzm ((by rw [hg];exact Nat.ne_of_lt (blk_lt (g:=a7) (o:=.cells #[.bool a1,.bool a2,.int .i64 a4,.int .i64 a6,.int .i64 a8,.slice a9 a5.length b0] 39 (0,0)) (zzE a3.out)):a7≠a0));have c9:=zzm ((by rw [hg];exact Nat.ne_of_gt (blk_lt (g:=a7) (o:=.cells #[.bool a1,.bool a2,.int .i64 a4,.int .i64 a6,.int .i64 a8,.slice a9 a5.length b0] 39 (0,0)) (zzE a3.out)):a0≠a7));clear a3 HB;have a3:=b3;have HB:=b4;have b1:=b5;have h8:=b6;have h9:=c7;have b8:=c8;have b7:=c9;clear b3 b4 b5 b6 c7 c8 c9 hb hbox hg;have j3:=b8.out;have j4:=b7.out;obtain ⟨e2,e3,e4,e5,e6,e7,e8,e9,g0,g1,g2,g3⟩:=zzc6 a3.out)|((with_reducible refine gate_callee (f:=55) rfl ?_);refine goesL_ (some 5) rfl rfl Try.func55 (by kernel_rfl) rfl #[.slice a9 a5.length b0] rfl zzM2 ?_;(with_reducible refine (Qo.calls k _ _ a5 b2 _ ?side1 ?side2 A2.out).mono ?_);(case side1=>exact zzcb c4 HB);(case side2=>exact c5.out);rintro e w7 ⟨j5,rfl,ho0,hb⟩;refine ⟨_,rfl,?_⟩;have b3:=zzm (Kd.S_lower ho0 (zzo zzh2));have b4:=zzm (zzh (g:=a7) (o:=.cells #[.bool a1,.bool a2,.int .i64 a4,.int .i64 a6,.int .i64 a8,.slice a9 a5.length b0] 39 (0,0)) (zzE a3.out) hb);have b5:=zzm (zzh (g:=a0) (o:=.cells #[.bool false,.bool false,.int .i64 0,.int .i64 0,.int .i64 0,.slice none 0 0] 39 (0,0)) (zzE b1.out) hb);have b6:=zzm (zzp zzh2 hb);clear a3 b1 HB;have c1:=b3;have a3:=b4;have b1:=b5;have HB:=b6;clear b3 b4 b5 b6;(try clear hb);(try clear hb2);(try clear hk);(try clear hi);(try clear ho0);obtain ⟨c2,c3,eo8⟩:=Kd.S_slice c1.out;subst eo8;obtain ⟨g4,g5,g6,g7,g8,g9,h0,h1,h2,h3,h4,h5⟩:=zzc6 a3.out;obtain ⟨d0,d1,d2,d3,d4,d5,d6,d7,d8,d9,e0,e1⟩:=zzc6 b1.out));refine bodyPost_ret (results_cell_row rfl _ _ a0 39 #[.bool a1,.bool a2,.int .i64 a4,.int .i64 a6,.int .i64 a8,.slice c2 b2.length c3] (0,0) _ rfl (by (with_reducible repeat (first|apply zzf|apply zzg|apply zze));refine zzi (cs:=#[.bool a1,.bool a2,.int .i64 a4,.int .i64 a6,.int .i64 a8,.slice none 0 0]) ?_ 5 _ rfl;refine zzi (cs:=#[.bool a1,.bool a2,.int .i64 a4,.int .i64 a6,.int .i64 0,.slice none 0 0]) ?_ 4 _ rfl;refine zzi (cs:=#[.bool a1,.bool a2,.int .i64 a4,.int .i64 0,.int .i64 0,.slice none 0 0]) ?_ 3 _ rfl;refine zzi (cs:=#[.bool a1,.bool a2,.int .i64 0,.int .i64 0,.int .i64 0,.slice none 0 0]) ?_ 2 _ rfl;refine zzi (cs:=#[.bool a1,.bool false,.int .i64 0,.int .i64 0,.int .i64 0,.slice none 0 0]) ?_ 1 _ rfl;refine zzi (cs:=#[.bool false,.bool false,.int .i64 0,.int .i64 0,.int .i64 0,.slice none 0 0]) ?_ 0 _ rfl;(with_reducible repeat (first|apply zzf|apply zzg|apply zze));refine zzj ?_ b7.out _;(with_reducible repeat (first|apply zzf|apply zzg|apply zze));exact b1.out) Try.underlying39 rfl (by kernel_rfl)) rfl ?_;exact ⟨_,zzR,by (with_reducible repeat (first|apply Kd.S_alloc|apply Kd.S_drewN|apply Kd.S_drew));exact Kd.S_mono (Kd.S_far (p:=⟨a0,5,none⟩) (Kd.S_far (p:=⟨a0,4,none⟩) (Kd.S_far (p:=⟨a0,3,none⟩) (Kd.S_far (p:=⟨a0,2,none⟩) (Kd.S_far (p:=⟨a0,1,none⟩) (Kd.S_far (p:=⟨a0,0,none⟩) (Kd.S_far (p:=⟨a7,5,none⟩) (Kd.S_types (Kd.S_types c1.out a3.out (by decide)) b1.out (by decide)) (fun _ hk=>hk.1.2) (.slice c2 b2.length c3)) (fun _ hk=>hk.2) (.bool a1)) (fun _ hk=>hk.2) (.bool a2)) (fun _ hk=>hk.2) (.int .i64 a4)) (fun _ hk=>hk.2) (.int .i64 a6)) (fun _ hk=>hk.2) (.int .i64 a8)) (fun _ hk=>hk.2) (.slice c2 b2.length c3)) (fun _ hk=>trivial),zzh3⟩

set_option linter.unusedVariables false
set_option linter.unusedSimpArgs false
def Qz.l0:Nat→List Int→List Int→Int→Option (Bool)
 | 0,_,_,_=>none
 | k+1,x0,x1,x5=>if x5 < (x0.length:Int) then (if 0≤x5 then (if x5 < (x1.length:Int) then (if (rd x0 x5)=(rd x1 x5) then (Qz.l0 k x0 x1 (wrap64 (x5+1))) else (some false)) else (none)) else (none)) else (some true)
def Qz.f (k:Nat) (l0:List Int) (l1:List Int):Option (Bool):=if (l0.length:Int)=(l1.length:Int) then (Qz.l0 k l0 l1 0) else (some false)
set_option maxHeartbeats 8000000 in
theorem Qz.calls (k:Nat) (A0:Option Addr) (c0:Nat) (l0:List Int) (A1:Option Addr) (c1:Nat) (l1:List Int) (r:Bool) (w:World) (b4:Kd.C (Kd.int .i64) w A0 l0.length l0) (b5:l0.length≤c0) (b6:Kd.C (Kd.int .i64) w A1 l1.length l1) (b7:l1.length≤c1) (h:Qz.f k l0 l1=some r) :
  Calls Try.prog 66 #[.slice A0 l0.length c0,.slice A1 l1.length c1] w fun e w'=>e = .returned (.bool r)∧Drawn0 w w':=by
 have b8:=zzm b4;have d2:=zzm b5;clear b4 b5;have b9:=zzm b6;have d3:=zzm b7;clear b6 b7;have H:(if (l0.length:Int)=(l1.length:Int) then (Qz.l0 k l0 l1 0) else (some false))=some r:=h;clear h;by_cases c3:(l0.length:Int)=(l1.length:Int)
 ·
  rw [if_pos c3] at H;obtain ⟨a9,b0⟩:=zzQ c3;have b1:(l0.length==l1.length)=true:=by first|simpa using c3|(simp at c3 ⊢;omega)
  clear c3;have H':=zzm H;clear H;go_enter Try.func66,Try.ntmps66;go_wp2;repeat (go_quiet (fail);try go_wp2)
  go_loopg [5] k (fun kq v5 w'=>∃ (a0:Int),v5 = .int .i64 a0∧Aside0 (Qz.l0 kq l0 l1 a0=some r)∧Aside0 (kq≤k)∧Drawn0 w w')
  case atStart=>exact ⟨(0),(by first|rfl|(simp;done)|(simp [*];done)),H',⟨Nat.le_refl _⟩,by repeat (first|exact Drawn0.refl _|apply Drawn0.step)⟩
  case round=>
   clear H';try clear c1
   try clear p2
   try clear c3
   try clear a9
   try clear b0
   try clear b1
   obtain ⟨a0,rfl,HA,HK1,⟨m1,rfl⟩⟩:=hrel;cases gk with
   | zero=>exact absurd HA.out (by simp [Qz.l0])
   | succ k1=>
    have H:=HA.out;clear HA;simp only [Qz.l0] at H;by_cases c4:a0 < (l0.length:Int)
    ·
     rw [if_pos c4] at H;have c2:decide (a0 < (l0.length:Int))=true:=decide_eq_true c4;clear c4;by_cases c5 : 0≤a0
     ·
      rw [if_pos c5] at H;have d0:decide (0≤a0)=true:=decide_eq_true c5;clear c5;by_cases c6:a0 < (l1.length:Int)
      ·
       rw [if_pos c6] at H;have d1:decide (a0 < (l1.length:Int))=true:=decide_eq_true c6;clear c6;by_cases c7:(rd l0 a0)=(rd l1 a0)
       ·
        rw [if_pos c7] at H;obtain ⟨c8,c9⟩:=zzQ c7;clear c7;have H':=zzm H;clear H;have a1 : 0≤(a0:Int):=zzt;have a2:a0 < (l0.length:Int):=zzt;obtain ⟨b2,a5,a7⟩:=Kd.at_int b8.out a0 a1 a2;cases a5;replace a1:=eq_true a1;replace a2:=eq_true a2;have a3 : 0≤(a0:Int):=zzt;have a4:a0 < (l1.length:Int):=zzt;obtain ⟨b3,a6,a8⟩:=Kd.at_int b9.out a0 a3 a4;cases a6;replace a3:=eq_true a3;replace a4:=eq_true a4;go_wp2;repeat (go_quiet (fail);try go_wp2)
        go_roundg k1
        case measure=>have:=HK1.out;omega
        case rel=>exact ⟨(wrap64 (a0+1)),(by first|rfl|(simp;done)|(simp [*];done)),H',⟨by have:=HK1.out;omega⟩,by repeat (first|exact Drawn0.refl _|apply Drawn0.step)⟩
       ·
        rw [if_neg c7] at H;obtain ⟨c8,c9⟩:=zzY c7;obtain rfl:=Option.some.inj H;have a1 : 0≤(a0:Int):=zzt;have a2:a0 < (l0.length:Int):=zzt;obtain ⟨b2,a5,a7⟩:=Kd.at_int b8.out a0 a1 a2;cases a5;replace a1:=eq_true a1;replace a2:=eq_true a2;have a3 : 0≤(a0:Int):=zzt;have a4:a0 < (l1.length:Int):=zzt;obtain ⟨b3,a6,a8⟩:=Kd.at_int b9.out a0 a3 a4;cases a6;replace a3:=eq_true a3;replace a4:=eq_true a4;go_wp2;repeat (go_quiet (fail);try go_wp2)
        go_ret;exact ⟨by first|rfl|(simp;done)|(simp [*];done),by repeat (first|exact Drawn0.refl _|apply Drawn0.step)⟩
      ·
       rw [if_neg c6] at H;exact absurd H (by simp)
     ·
      rw [if_neg c5] at H;exact absurd H (by simp)
    ·
     rw [if_neg c4] at H;have c2:decide (a0 < (l0.length:Int))=false:=decide_eq_false c4;clear c4;obtain rfl:=Option.some.inj H;go_wp2;repeat (go_quiet (fail);try go_wp2)
     go_ret;exact ⟨by first|rfl|(simp;done)|(simp [*];done),by repeat (first|exact Drawn0.refl _|apply Drawn0.step)⟩
 ·
  rw [if_neg c3] at H;obtain ⟨a9,b0⟩:=zzY c3;have b1:(l0.length==l1.length)=false:=by first|simpa using c3|(simp at c3 ⊢;omega)
  obtain rfl:=Option.some.inj H;go_enter Try.func66,Try.ntmps66;go_wp2;repeat (go_quiet (fail);try go_wp2)
  go_ret;exact ⟨by first|rfl|(simp;done)|(simp [*];done),by repeat (first|exact Drawn0.refl _|apply Drawn0.step)⟩

set_option linter.unusedVariables false
set_option linter.unusedSimpArgs false
def Rt.f (k:Nat) (a0_0:Int) (a0_1:Int) (a0_2:Bool) (l0_3:List Int) (a0_4:Bool) (l0_5:List Int) (a1_0:Int) (a1_1:Int) (a1_2:Bool) (l1_3:List Int) (a1_4:Bool) (l1_5:List Int):Option (Bool):=if a0_0=a1_0 then (if a0_1=a1_1 then (if (a0_2 != a1_2)=true then (some false) else ((Qz.f k l0_3 l1_3).bind fun t327=>(if t327=true then (if (a0_4 != a1_4)=true then (some false) else ((Qz.f k l0_5 l1_5).bind fun t328=>(if t328=true then (some true) else (some false)))) else (some false)))) else (some false)) else (some false)
set_option maxHeartbeats 8000000 in
theorem Rt.calls (k:Nat) (a9:Int) (b0:Int) (a4:Bool) (a7:Option Addr) (a8:Nat) (a3:List Int) (a5:Bool) (b1:Option Addr) (b2:Nat) (a6:List Int) (d2:Int) (d3:Int) (c0:Bool) (d0:Option Addr) (d1:Nat) (b9:List Int) (c1:Bool) (d4:Option Addr) (d5:Nat) (c2:List Int) (r:Bool) (w:World) (e7:Kd.C (Kd.int .i64) w a7 a3.length a3) (e8:a3.length≤a8) (e9:Kd.C (Kd.int .i64) w b1 a6.length a6) (g0:a6.length≤b2) (g1:Kd.C (Kd.int .i64) w d0 b9.length b9) (g2:b9.length≤d1) (g3:Kd.C (Kd.int .i64) w d4 c2.length c2) (g4:c2.length≤d5) (h:Rt.f k a9 b0 a4 a3 a5 a6 d2 d3 c0 b9 c1 c2=some r) :
  Calls Try.prog 56 #[.agg #[.int .i64 a9,.int .i64 b0,.bool a4,.slice a7 a3.length a8,.bool a5,.slice b1 a6.length b2],.agg #[.int .i64 d2,.int .i64 d3,.bool c0,.slice d0 b9.length d1,.bool c1,.slice d4 c2.length d5]] w fun e w'=>e = .returned (.bool r)∧Below w.heap.size w w':=by
 have hu47:=Try.underlying47;have e1:=zzm e7;have e2:=zzm e8;clear e7 e8;have g5:=zzm e9;have g6:=zzm g0;clear e9 g0;have e3:=zzm g1;have e4:=zzm g2;clear g1 g2;have g7:=zzm g3;have g8:=zzm g4;clear g3 g4;have HB:=zzm (Below.refl w.heap.size w);have H:(if a9=d2 then (if b0=d3 then (if (a4 != c0)=true then (some false) else ((Qz.f k a3 b9).bind fun e5=>(if e5=true then (if (a5 != c1)=true then (some false) else ((Qz.f k a6 c2).bind fun e6=>(if e6=true then (some true) else (some false)))) else (some false)))) else (some false)) else (some false))=some r:=h;clear h;by_cases c3:a9=d2
 ·
  rw [if_pos c3] at H;obtain ⟨h6,h7⟩:=zzQ c3;clear c3;by_cases c4:b0=d3
  ·
   rw [if_pos c4] at H;obtain ⟨h8,h9⟩:=zzQ c4;clear c4;by_cases c5:(a4 != c0)=true
   ·
    rw [if_pos c5] at H;have j3:(a4 != c0)=true:=c5
    (try (have j4:decide (a4=c0)=false:=by simpa using c5))
    (try (have j5:(a4==c0)=false:=by simpa using c5))
    (try (have D3:¬ (a4=c0):=by simpa using c5));clear c5;obtain rfl:=Option.some.inj H;go_enter Try.func56,Try.ntmps56;go_wp2_with (first|((with_reducible refine gate_dst (N:=2) rfl ?_);refine box_event ?hg (N:=2) ?hd (cs:=#[.int .i64 a9,.int .i64 b0,.bool a4,.slice a7 a3.length a8,.bool a5,.slice b1 a6.length b2]) (t:=47) ?hr ?_;(case hd=>rfl);(case hg=>rfl);(case hr=>first|(go_simp;done)|(go_simp;rfl));intro a0 hg w6 hbox hb;have b3:=zzm (zzp zzh1 hb);have b4:=zzm (hbox);have b5:=zzm ((by rw [hg];exact (zzo zzh1):w.heap.size≤a0));have b6:=zzm ((by rw [hg];exact (zzo zzh1):w.heap.size≤a0));clear HB;have HB:=b3;have a1:=b4;have d7:=b5;have d8:=b6;clear b3 b4 b5 b6 hb hbox hg)|((with_reducible refine gate_dst (N:=3) rfl ?_);refine box_event ?hg (N:=3) ?hd (cs:=#[.int .i64 d2,.int .i64 d3,.bool c0,.slice d0 b9.length d1,.bool c1,.slice d4 c2.length d5]) (t:=47) ?hr ?_;(case hd=>rfl);(case hg=>rfl);(case hr=>first|(go_simp;done)|(go_simp;rfl));intro a2 hg w7 hbox hb;have b3:=zzm (zzh (g:=a0) (o:=.cells #[.int .i64 a9,.int .i64 b0,.bool a4,.slice a7 a3.length a8,.bool a5,.slice b1 a6.length b2] 47 (0,0)) (zzE a1.out) hb);have b4:=zzm (zzp zzh2 hb);have b5:=zzm (hbox);have b6:=zzm ((by rw [hg];exact (zzo zzh2):w.heap.size≤a2));have c7:=zzm ((by rw [hg];exact (zzo zzh2):w.heap.size≤a2));have c8:=zzm ((by rw [hg];exact Nat.ne_of_lt (blk_lt (g:=a0) (o:=.cells #[.int .i64 a9,.int .i64 b0,.bool a4,.slice a7 a3.length a8,.bool a5,.slice b1 a6.length b2] 47 (0,0)) (zzE a1.out)):a0≠a2));have c9:=zzm ((by rw [hg];exact Nat.ne_of_gt (blk_lt (g:=a0) (o:=.cells #[.int .i64 a9,.int .i64 b0,.bool a4,.slice a7 a3.length a8,.bool a5,.slice b1 a6.length b2] 47 (0,0)) (zzE a1.out)):a2≠a0));clear a1 HB;have a1:=b3;have HB:=b4;have c6:=b5;have d9:=b6;have e0:=c7;have b7:=c8;have b8:=c9;clear b3 b4 b5 b6 c7 c8 c9 hb hbox hg;have D4:=b7.out;have D5:=b8.out;obtain ⟨A6,A7,A8,A9,B0,B1,B2,B3,B5,B7,B8,B9⟩:=zzc6 a1.out;obtain ⟨j6,j7,j8,j9,k0,k1,k2,k3,k4,k5,k6,k7⟩:=zzc6 c6.out));go_ret;exact ⟨zzR,zzh3⟩
   ·
    rw [if_neg c5] at H;have j3:(a4 != c0)=false:=by simpa using c5
    (try (have j4:decide (a4=c0)=true:=by simpa using c5))
    (try (have j5:(a4==c0)=true:=by simpa using c5));clear c5;obtain ⟨e5,g9,H⟩:=zzG H;by_cases h0:e5=true
    ·
     subst h0;replace H:=zzIt H;by_cases d6:(a5 != c1)=true
     ·
      rw [if_pos d6] at H;have h2:(a5 != c1)=true:=d6
      (try (have h3:decide (a5=c1)=false:=by simpa using d6))
      (try (have h4:(a5==c1)=false:=by simpa using d6))
      (try (have C0:¬ (a5=c1):=by simpa using d6));clear d6;obtain rfl:=Option.some.inj H;go_enter Try.func56,Try.ntmps56;go_wp2_with (first|((with_reducible refine gate_dst (N:=2) rfl ?_);refine box_event ?hg (N:=2) ?hd (cs:=#[.int .i64 a9,.int .i64 b0,.bool a4,.slice a7 a3.length a8,.bool a5,.slice b1 a6.length b2]) (t:=47) ?hr ?_;(case hd=>rfl);(case hg=>rfl);(case hr=>first|(go_simp;done)|(go_simp;rfl));intro a0 hg D6 hbox hb;have b3:=zzm (zzp zzh1 hb);have b4:=zzm (hbox);have b5:=zzm ((by rw [hg];exact (zzo zzh1):w.heap.size≤a0));have b6:=zzm ((by rw [hg];exact (zzo zzh1):w.heap.size≤a0));clear HB;have HB:=b3;have a1:=b4;have d7:=b5;have d8:=b6;clear b3 b4 b5 b6 hb hbox hg)|((with_reducible refine gate_dst (N:=3) rfl ?_);refine box_event ?hg (N:=3) ?hd (cs:=#[.int .i64 d2,.int .i64 d3,.bool c0,.slice d0 b9.length d1,.bool c1,.slice d4 c2.length d5]) (t:=47) ?hr ?_;(case hd=>rfl);(case hg=>rfl);(case hr=>first|(go_simp;done)|(go_simp;rfl));intro a2 hg D7 hbox hb;have b3:=zzm (zzh (g:=a0) (o:=.cells #[.int .i64 a9,.int .i64 b0,.bool a4,.slice a7 a3.length a8,.bool a5,.slice b1 a6.length b2] 47 (0,0)) (zzE a1.out) hb);have b4:=zzm (zzp zzh2 hb);have b5:=zzm (hbox);have b6:=zzm ((by rw [hg];exact (zzo zzh2):w.heap.size≤a2));have c7:=zzm ((by rw [hg];exact (zzo zzh2):w.heap.size≤a2));have c8:=zzm ((by rw [hg];exact Nat.ne_of_lt (blk_lt (g:=a0) (o:=.cells #[.int .i64 a9,.int .i64 b0,.bool a4,.slice a7 a3.length a8,.bool a5,.slice b1 a6.length b2] 47 (0,0)) (zzE a1.out)):a0≠a2));have c9:=zzm ((by rw [hg];exact Nat.ne_of_gt (blk_lt (g:=a0) (o:=.cells #[.int .i64 a9,.int .i64 b0,.bool a4,.slice a7 a3.length a8,.bool a5,.slice b1 a6.length b2] 47 (0,0)) (zzE a1.out)):a2≠a0));clear a1 HB;have a1:=b3;have HB:=b4;have c6:=b5;have d9:=b6;have e0:=c7;have b7:=c8;have b8:=c9;clear b3 b4 b5 b6 c7 c8 c9 hb hbox hg;have C1:=b7.out;have C2:=b8.out;obtain ⟨k8,k9,l2,l3,l4,l5,l6,l7,l8,l9,m0,m1⟩:=zzc6 a1.out;obtain ⟨m2,m3,m4,m5,m6,m7,m8,m9,n0,n1,n2,n3⟩:=zzc6 c6.out)|((with_reducible refine gate_callee (f:=66) rfl ?_);refine goesL_ (some 24) rfl rfl Try.func66 (by kernel_rfl) rfl #[.slice a7 a3.length a8,.slice d0 b9.length d1] rfl zzM2 ?_;(with_reducible refine (Qz.calls k _ _ a3 _ _ b9 true _ ?side1 ?side2 ?side3 ?side4 g9.out).mono ?_);(case side1=>exact zzcb e1 HB);(case side2=>exact e2.out);(case side3=>exact zzcb e3 HB);(case side4=>exact e4.out);rintro e w' ⟨rfl,⟨nd,rfl⟩⟩;refine ⟨_,rfl,?_⟩));go_ret;exact ⟨zzR,zzh3⟩
     ·
      rw [if_neg d6] at H;have h2:(a5 != c1)=false:=by simpa using d6
      (try (have h3:decide (a5=c1)=true:=by simpa using d6))
      (try (have h4:(a5==c1)=true:=by simpa using d6));clear d6;obtain ⟨e6,h5,H⟩:=zzG H;by_cases h1:e6=true
      ·
       subst h1;replace H:=zzIt H;obtain rfl:=Option.some.inj H;go_enter Try.func56,Try.ntmps56;go_wp2_with (first|((with_reducible refine gate_dst (N:=2) rfl ?_);refine box_event ?hg (N:=2) ?hd (cs:=#[.int .i64 a9,.int .i64 b0,.bool a4,.slice a7 a3.length a8,.bool a5,.slice b1 a6.length b2]) (t:=47) ?hr ?_;(case hd=>rfl);(case hg=>rfl);(case hr=>first|(go_simp;done)|(go_simp;rfl));intro a0 hg D8 hbox hb;have b3:=zzm (zzp zzh1 hb);have b4:=zzm (hbox);have b5:=zzm ((by rw [hg];exact (zzo zzh1):w.heap.size≤a0));have b6:=zzm ((by rw [hg];exact (zzo zzh1):w.heap.size≤a0));clear HB;have HB:=b3;have a1:=b4;have d7:=b5;have d8:=b6;clear b3 b4 b5 b6 hb hbox hg)|((with_reducible refine gate_dst (N:=3) rfl ?_);refine box_event ?hg (N:=3) ?hd (cs:=#[.int .i64 d2,.int .i64 d3,.bool c0,.slice d0 b9.length d1,.bool c1,.slice d4 c2.length d5]) (t:=47) ?hr ?_;(case hd=>rfl);(case hg=>rfl);(case hr=>first|(go_simp;done)|(go_simp;rfl));intro a2 hg D9 hbox hb;have b3:=zzm (zzh (g:=a0) (o:=.cells #[.int .i64 a9,.int .i64 b0,.bool a4,.slice a7 a3.length a8,.bool a5,.slice b1 a6.length b2] 47 (0,0)) (zzE a1.out) hb);have b4:=zzm (zzp zzh2 hb);have b5:=zzm (hbox);have b6:=zzm ((by rw [hg];exact (zzo zzh2):w.heap.size≤a2));have c7:=zzm ((by rw [hg];exact (zzo zzh2):w.heap.size≤a2));have c8:=zzm ((by rw [hg];exact Nat.ne_of_lt (blk_lt (g:=a0) (o:=.cells #[.int .i64 a9,.int .i64 b0,.bool a4,.slice a7 a3.length a8,.bool a5,.slice b1 a6.length b2] 47 (0,0)) (zzE a1.out)):a0≠a2));have c9:=zzm ((by rw [hg];exact Nat.ne_of_gt (blk_lt (g:=a0) (o:=.cells #[.int .i64 a9,.int .i64 b0,.bool a4,.slice a7 a3.length a8,.bool a5,.slice b1 a6.length b2] 47 (0,0)) (zzE a1.out)):a2≠a0));clear a1 HB;have a1:=b3;have HB:=b4;have c6:=b5;have d9:=b6;have e0:=c7;have b7:=c8;have b8:=c9;clear b3 b4 b5 b6 c7 c8 c9 hb hbox hg;have C3:=b7.out;have C4:=b8.out;obtain ⟨n4,n5,n6,n7,n8,n9,o0,o1,o2,o3,o4,o5⟩:=zzc6 a1.out;obtain ⟨o6,o7,o8,o9,p0,p1,p2,p3,p4,p5,p6,p7⟩:=zzc6 c6.out)|((with_reducible refine gate_callee (f:=66) rfl ?_);refine goesL_ (some 24) rfl rfl Try.func66 (by kernel_rfl) rfl #[.slice a7 a3.length a8,.slice d0 b9.length d1] rfl zzM2 ?_;(with_reducible refine (Qz.calls k _ _ a3 _ _ b9 true _ ?side1 ?side2 ?side3 ?side4 g9.out).mono ?_);(case side1=>exact zzcb e1 HB);(case side2=>exact e2.out);(case side3=>exact zzcb e3 HB);(case side4=>exact e4.out);rintro e w' ⟨rfl,⟨nd,rfl⟩⟩;refine ⟨_,rfl,?_⟩)|((with_reducible refine gate_callee (f:=66) rfl ?_);refine goesL_ (some 35) rfl rfl Try.func66 (by kernel_rfl) rfl #[.slice b1 a6.length b2,.slice d4 c2.length d5] rfl zzM2 ?_;(with_reducible refine (Qz.calls k _ _ a6 _ _ c2 true _ ?side1 ?side2 ?side3 ?side4 h5.out).mono ?_);(case side1=>repeat (first|exact (Kd.C_below g5.out zzh2)|(with_reducible refine Kd.C_alloc ?_ _)|(with_reducible refine Kd.C_drewN ?_ _)|(with_reducible refine Kd.C_drew ?_)));(case side2=>exact g6.out);(case side3=>repeat (first|exact (Kd.C_below g7.out zzh2)|(with_reducible refine Kd.C_alloc ?_ _)|(with_reducible refine Kd.C_drewN ?_ _)|(with_reducible refine Kd.C_drew ?_)));(case side4=>exact g8.out);rintro e w' ⟨rfl,⟨nd,rfl⟩⟩;refine ⟨_,rfl,?_⟩));go_ret;exact ⟨zzR,zzh3⟩
      ·
       replace h1:=Bool.eq_false_iff.mpr h1;subst h1;replace H:=zzIf H;obtain rfl:=Option.some.inj H;go_enter Try.func56,Try.ntmps56;go_wp2_with (first|((with_reducible refine gate_dst (N:=2) rfl ?_);refine box_event ?hg (N:=2) ?hd (cs:=#[.int .i64 a9,.int .i64 b0,.bool a4,.slice a7 a3.length a8,.bool a5,.slice b1 a6.length b2]) (t:=47) ?hr ?_;(case hd=>rfl);(case hg=>rfl);(case hr=>first|(go_simp;done)|(go_simp;rfl));intro a0 hg E0 hbox hb;have b3:=zzm (zzp zzh1 hb);have b4:=zzm (hbox);have b5:=zzm ((by rw [hg];exact (zzo zzh1):w.heap.size≤a0));have b6:=zzm ((by rw [hg];exact (zzo zzh1):w.heap.size≤a0));clear HB;have HB:=b3;have a1:=b4;have d7:=b5;have d8:=b6;clear b3 b4 b5 b6 hb hbox hg)|((with_reducible refine gate_dst (N:=3) rfl ?_);refine box_event ?hg (N:=3) ?hd (cs:=#[.int .i64 d2,.int .i64 d3,.bool c0,.slice d0 b9.length d1,.bool c1,.slice d4 c2.length d5]) (t:=47) ?hr ?_;(case hd=>rfl);(case hg=>rfl);(case hr=>first|(go_simp;done)|(go_simp;rfl));intro a2 hg E1 hbox hb;have b3:=zzm (zzh (g:=a0) (o:=.cells #[.int .i64 a9,.int .i64 b0,.bool a4,.slice a7 a3.length a8,.bool a5,.slice b1 a6.length b2] 47 (0,0)) (zzE a1.out) hb);have b4:=zzm (zzp zzh2 hb);have b5:=zzm (hbox);have b6:=zzm ((by rw [hg];exact (zzo zzh2):w.heap.size≤a2));have c7:=zzm ((by rw [hg];exact (zzo zzh2):w.heap.size≤a2));have c8:=zzm ((by rw [hg];exact Nat.ne_of_lt (blk_lt (g:=a0) (o:=.cells #[.int .i64 a9,.int .i64 b0,.bool a4,.slice a7 a3.length a8,.bool a5,.slice b1 a6.length b2] 47 (0,0)) (zzE a1.out)):a0≠a2));have c9:=zzm ((by rw [hg];exact Nat.ne_of_gt (blk_lt (g:=a0) (o:=.cells #[.int .i64 a9,.int .i64 b0,.bool a4,.slice a7 a3.length a8,.bool a5,.slice b1 a6.length b2] 47 (0,0)) (zzE a1.out)):a2≠a0));clear a1 HB;have a1:=b3;have HB:=b4;have c6:=b5;have d9:=b6;have e0:=c7;have b7:=c8;have b8:=c9;clear b3 b4 b5 b6 c7 c8 c9 hb hbox hg;have C5:=b7.out;have C6:=b8.out;obtain ⟨p8,p9,q0,q1,q2,q3,q4,q5,q6,q7,q8,q9⟩:=zzc6 a1.out;obtain ⟨r0,r1,r2,r3,r4,r5,r6,r7,r8,r9,s0,s1⟩:=zzc6 c6.out)|((with_reducible refine gate_callee (f:=66) rfl ?_);refine goesL_ (some 24) rfl rfl Try.func66 (by kernel_rfl) rfl #[.slice a7 a3.length a8,.slice d0 b9.length d1] rfl zzM2 ?_;(with_reducible refine (Qz.calls k _ _ a3 _ _ b9 true _ ?side1 ?side2 ?side3 ?side4 g9.out).mono ?_);(case side1=>exact zzcb e1 HB);(case side2=>exact e2.out);(case side3=>exact zzcb e3 HB);(case side4=>exact e4.out);rintro e w' ⟨rfl,⟨nd,rfl⟩⟩;refine ⟨_,rfl,?_⟩)|((with_reducible refine gate_callee (f:=66) rfl ?_);refine goesL_ (some 35) rfl rfl Try.func66 (by kernel_rfl) rfl #[.slice b1 a6.length b2,.slice d4 c2.length d5] rfl zzM2 ?_;(with_reducible refine (Qz.calls k _ _ a6 _ _ c2 false _ ?side1 ?side2 ?side3 ?side4 h5.out).mono ?_);(case side1=>repeat (first|exact (Kd.C_below g5.out zzh2)|(with_reducible refine Kd.C_alloc ?_ _)|(with_reducible refine Kd.C_drewN ?_ _)|(with_reducible refine Kd.C_drew ?_)));(case side2=>exact g6.out);(case side3=>repeat (first|exact (Kd.C_below g7.out zzh2)|(with_reducible refine Kd.C_alloc ?_ _)|(with_reducible refine Kd.C_drewN ?_ _)|(with_reducible refine Kd.C_drew ?_)));(case side4=>exact g8.out);rintro e w' ⟨rfl,⟨nd,rfl⟩⟩;refine ⟨_,rfl,?_⟩));go_ret;exact ⟨zzR,zzh3⟩
    ·
     replace h0:=Bool.eq_false_iff.mpr h0;subst h0;replace H:=zzIf H;obtain rfl:=Option.some.inj H;go_enter Try.func56,Try.ntmps56;go_wp2_with (first|((with_reducible refine gate_dst (N:=2) rfl ?_);refine box_event ?hg (N:=2) ?hd (cs:=#[.int .i64 a9,.int .i64 b0,.bool a4,.slice a7 a3.length a8,.bool a5,.slice b1 a6.length b2]) (t:=47) ?hr ?_;(case hd=>rfl);(case hg=>rfl);(case hr=>first|(go_simp;done)|(go_simp;rfl));intro a0 hg E2 hbox hb;have b3:=zzm (zzp zzh1 hb);have b4:=zzm (hbox);have b5:=zzm ((by rw [hg];exact (zzo zzh1):w.heap.size≤a0));have b6:=zzm ((by rw [hg];exact (zzo zzh1):w.heap.size≤a0));clear HB;have HB:=b3;have a1:=b4;have d7:=b5;have d8:=b6;clear b3 b4 b5 b6 hb hbox hg)|((with_reducible refine gate_dst (N:=3) rfl ?_);refine box_event ?hg (N:=3) ?hd (cs:=#[.int .i64 d2,.int .i64 d3,.bool c0,.slice d0 b9.length d1,.bool c1,.slice d4 c2.length d5]) (t:=47) ?hr ?_;(case hd=>rfl);(case hg=>rfl);(case hr=>first|(go_simp;done)|(go_simp;rfl));intro a2 hg E3 hbox hb;have b3:=zzm (zzh (g:=a0) (o:=.cells #[.int .i64 a9,.int .i64 b0,.bool a4,.slice a7 a3.length a8,.bool a5,.slice b1 a6.length b2] 47 (0,0)) (zzE a1.out) hb);have b4:=zzm (zzp zzh2 hb);have b5:=zzm (hbox);have b6:=zzm ((by rw [hg];exact (zzo zzh2):w.heap.size≤a2));have c7:=zzm ((by rw [hg];exact (zzo zzh2):w.heap.size≤a2));have c8:=zzm ((by rw [hg];exact Nat.ne_of_lt (blk_lt (g:=a0) (o:=.cells #[.int .i64 a9,.int .i64 b0,.bool a4,.slice a7 a3.length a8,.bool a5,.slice b1 a6.length b2] 47 (0,0)) (zzE a1.out)):a0≠a2));have c9:=zzm ((by rw [hg];exact Nat.ne_of_gt (blk_lt (g:=a0) (o:=.cells #[.int .i64 a9,.int .i64 b0,.bool a4,.slice a7 a3.length a8,.bool a5,.slice b1 a6.length b2] 47 (0,0)) (zzE a1.out)):a2≠a0));clear a1 HB;have a1:=b3;have HB:=b4;have c6:=b5;have d9:=b6;have e0:=c7;have b7:=c8;have b8:=c9;clear b3 b4 b5 b6 c7 c8 c9 hb hbox hg;have C7:=b7.out;have C8:=b8.out;obtain ⟨s2,s3,s4,s5,s6,s7,s8,s9,t0,t1,t2,t3⟩:=zzc6 a1.out;obtain ⟨t4,t5,t6,t7,t8,t9,v0,v1,v2,v3,v4,v5⟩:=zzc6 c6.out)|((with_reducible refine gate_callee (f:=66) rfl ?_);refine goesL_ (some 24) rfl rfl Try.func66 (by kernel_rfl) rfl #[.slice a7 a3.length a8,.slice d0 b9.length d1] rfl zzM2 ?_;(with_reducible refine (Qz.calls k _ _ a3 _ _ b9 false _ ?side1 ?side2 ?side3 ?side4 g9.out).mono ?_);(case side1=>exact zzcb e1 HB);(case side2=>exact e2.out);(case side3=>exact zzcb e3 HB);(case side4=>exact e4.out);rintro e w' ⟨rfl,⟨nd,rfl⟩⟩;refine ⟨_,rfl,?_⟩));go_ret;exact ⟨zzR,zzh3⟩
  ·
   rw [if_neg c4] at H;obtain ⟨h8,h9⟩:=zzY c4;obtain rfl:=Option.some.inj H;go_enter Try.func56,Try.ntmps56;go_wp2_with (first|((with_reducible refine gate_dst (N:=2) rfl ?_);refine box_event ?hg (N:=2) ?hd (cs:=#[.int .i64 a9,.int .i64 b0,.bool a4,.slice a7 a3.length a8,.bool a5,.slice b1 a6.length b2]) (t:=47) ?hr ?_;(case hd=>rfl);(case hg=>rfl);(case hr=>first|(go_simp;done)|(go_simp;rfl));intro a0 hg E4 hbox hb;have b3:=zzm (zzp zzh1 hb);have b4:=zzm (hbox);have b5:=zzm ((by rw [hg];exact (zzo zzh1):w.heap.size≤a0));have b6:=zzm ((by rw [hg];exact (zzo zzh1):w.heap.size≤a0));clear HB;have HB:=b3;have a1:=b4;have d7:=b5;have d8:=b6;clear b3 b4 b5 b6 hb hbox hg)|((with_reducible refine gate_dst (N:=3) rfl ?_);refine box_event ?hg (N:=3) ?hd (cs:=#[.int .i64 d2,.int .i64 d3,.bool c0,.slice d0 b9.length d1,.bool c1,.slice d4 c2.length d5]) (t:=47) ?hr ?_;(case hd=>rfl);(case hg=>rfl);(case hr=>first|(go_simp;done)|(go_simp;rfl));intro a2 hg E5 hbox hb;have b3:=zzm (zzh (g:=a0) (o:=.cells #[.int .i64 a9,.int .i64 b0,.bool a4,.slice a7 a3.length a8,.bool a5,.slice b1 a6.length b2] 47 (0,0)) (zzE a1.out) hb);have b4:=zzm (zzp zzh2 hb);have b5:=zzm (hbox);have b6:=zzm ((by rw [hg];exact (zzo zzh2):w.heap.size≤a2));have c7:=zzm ((by rw [hg];exact (zzo zzh2):w.heap.size≤a2));have c8:=zzm ((by rw [hg];exact Nat.ne_of_lt (blk_lt (g:=a0) (o:=.cells #[.int .i64 a9,.int .i64 b0,.bool a4,.slice a7 a3.length a8,.bool a5,.slice b1 a6.length b2] 47 (0,0)) (zzE a1.out)):a0≠a2));have c9:=zzm ((by rw [hg];exact Nat.ne_of_gt (blk_lt (g:=a0) (o:=.cells #[.int .i64 a9,.int .i64 b0,.bool a4,.slice a7 a3.length a8,.bool a5,.slice b1 a6.length b2] 47 (0,0)) (zzE a1.out)):a2≠a0));clear a1 HB;have a1:=b3;have HB:=b4;have c6:=b5;have d9:=b6;have e0:=c7;have b7:=c8;have b8:=c9;clear b3 b4 b5 b6 c7 c8 c9 hb hbox hg;have C9:=b7.out;have D0:=b8.out;obtain ⟨v6,v7,v8,v9,w0,w1,w2,w3,w4,w5,w8,w9⟩:=zzc6 a1.out;obtain ⟨x0,x1,x2,x3,x4,x5,x6,x7,x8,x9,y0,y1⟩:=zzc6 c6.out));go_ret;exact ⟨zzR,zzh3⟩
 ·
  rw [if_neg c3] at H;obtain ⟨h6,h7⟩:=zzY c3;obtain rfl:=Option.some.inj H;go_enter Try.func56,Try.ntmps56;go_wp2_with (first|((with_reducible refine gate_dst (N:=2) rfl ?_);refine box_event ?hg (N:=2) ?hd (cs:=#[.int .i64 a9,.int .i64 b0,.bool a4,.slice a7 a3.length a8,.bool a5,.slice b1 a6.length b2]) (t:=47) ?hr ?_;(case hd=>rfl);(case hg=>rfl);(case hr=>first|(go_simp;done)|(go_simp;rfl));intro a0 hg E6 hbox hb;have b3:=zzm (zzp zzh1 hb);have b4:=zzm (hbox);have b5:=zzm ((by rw [hg];exact (zzo zzh1):w.heap.size≤a0));have b6:=zzm ((by rw [hg];exact (zzo zzh1):w.heap.size≤a0));clear HB;have HB:=b3;have a1:=b4;have d7:=b5;have d8:=b6;clear b3 b4 b5 b6 hb hbox hg)|((with_reducible refine gate_dst (N:=3) rfl ?_);refine box_event ?hg (N:=3) ?hd (cs:=#[.int .i64 d2,.int .i64 d3,.bool c0,.slice d0 b9.length d1,.bool c1,.slice d4 c2.length d5]) (t:=47) ?hr ?_;(case hd=>rfl);(case hg=>rfl);(case hr=>first|(go_simp;done)|(go_simp;rfl));intro a2 hg E7 hbox hb;have b3:=zzm (zzh (g:=a0) (o:=.cells #[.int .i64 a9,.int .i64 b0,.bool a4,.slice a7 a3.length a8,.bool a5,.slice b1 a6.length b2] 47 (0,0)) (zzE a1.out) hb);have b4:=zzm (zzp zzh2 hb);have b5:=zzm (hbox);have b6:=zzm ((by rw [hg];exact (zzo zzh2):w.heap.size≤a2));have c7:=zzm ((by rw [hg];exact (zzo zzh2):w.heap.size≤a2));have c8:=zzm ((by rw [hg];exact Nat.ne_of_lt (blk_lt (g:=a0) (o:=.cells #[.int .i64 a9,.int .i64 b0,.bool a4,.slice a7 a3.length a8,.bool a5,.slice b1 a6.length b2] 47 (0,0)) (zzE a1.out)):a0≠a2));have c9:=zzm ((by rw [hg];exact Nat.ne_of_gt (blk_lt (g:=a0) (o:=.cells #[.int .i64 a9,.int .i64 b0,.bool a4,.slice a7 a3.length a8,.bool a5,.slice b1 a6.length b2] 47 (0,0)) (zzE a1.out)):a2≠a0));clear a1 HB;have a1:=b3;have HB:=b4;have c6:=b5;have d9:=b6;have e0:=c7;have b7:=c8;have b8:=c9;clear b3 b4 b5 b6 c7 c8 c9 hb hbox hg;have D1:=b7.out;have D2:=b8.out;obtain ⟨y2,y3,y4,y5,y6,y7,y8,y9,z0,z1,z2,z3⟩:=zzc6 a1.out;obtain ⟨z4,z5,z6,z7,z8,z9,A0,A1,A2,A3,A4,A5⟩:=zzc6 c6.out));go_ret;exact ⟨zzR,zzh3⟩

set_option linter.unusedVariables false
set_option linter.unusedSimpArgs false
def Qj.l0:Nat→List (S47)→List (S47)→Int→Option (Bool)
 | 0,_,_,_=>none
 | k+1,x0,x1,x5=>if x5 < (x0.length:Int) then (if 0≤x5 then (if x5 < (x1.length:Int) then ((Rt.f k ((Qb x0 x5).f0) ((Qb x0 x5).f1) ((Qb x0 x5).f2) ((Qb x0 x5).f3) ((Qb x0 x5).f4) ((Qb x0 x5).f5) ((Qb x1 x5).f0) ((Qb x1 x5).f1) ((Qb x1 x5).f2) ((Qb x1 x5).f3) ((Qb x1 x5).f4) ((Qb x1 x5).f5)).bind fun t331=>(if t331=true then (Qj.l0 k x0 x1 (wrap64 (x5+1))) else (some false))) else (none)) else (none)) else (some true)
def Qj.f (k:Nat) (l0:List (S47)) (l1:List (S47)):Option (Bool):=if (l0.length:Int)=(l1.length:Int) then (Qj.l0 k l0 l1 0) else (some false)
def Qj.T6:Bool×List (List Nat×List Nat):=(true,[([],[]),([],[]),([0,1],[0,1]),([2],[2]),([],[]),([],[]),([4,5],[4,5]),([6],[6]),([3,7],[3,7]),([8],[8])])
def Qj.B6:List Nat:=[0,0,3,7,0,0,48,112,255,511]
theorem Qj.tab6:rtab .any (opsOf Try.f40 6)=Qj.T6:=by kernel_rfl
theorem Qj.bits6:waitsOk Qj.T6.2 Qj.B6=true:=by kernel_rfl
set_option maxHeartbeats 8000000 in
theorem Qj.calls (k:Nat) (A0:Option Addr) (c0:Nat) (l0:List (S47)) (A1:Option Addr) (c1:Nat) (l1:List (S47)) (r:Bool) (w:World) (j4:Kd.C k47 w A0 l0.length l0) (j5:l0.length≤c0) (j6:Kd.C k47 w A1 l1.length l1) (j7:l1.length≤c1) (h:Qj.f k l0 l1=some r) :
  Calls Try.prog 40 #[.slice A0 l0.length c0,.slice A1 l1.length c1] w fun e w'=>e = .returned (.bool r)∧Below w.heap.size w w':=by
 have hu47:=Try.underlying47;have j8:=zzm j4;have k5:=zzm j5;clear j4 j5;have j9:=zzm j6;have k6:=zzm j7;clear j6 j7;have HB:=zzm (Below.refl w.heap.size w);have H:(if (l0.length:Int)=(l1.length:Int) then (Qj.l0 k l0 l1 0) else (some false))=some r:=h;clear h;by_cases c3:(l0.length:Int)=(l1.length:Int)
 ·
  rw [if_pos c3] at H;obtain ⟨h8,h9⟩:=zzQ c3;have j3:(l0.length==l1.length)=true:=by first|simpa using c3|(simp at c3 ⊢;omega)
  clear c3;have H':=zzm H;clear H;go_enter Try.func40,Try.ntmps40;go_wp2;go_loopg [5] k (fun kq v5 w'=>∃ (a0:Int),v5 = .int .i64 a0∧Aside0 (Qj.l0 kq l0 l1 a0=some r)∧Aside0 (kq≤k)∧Aside0 (Below w.heap.size w w'))
  case atStart=>exact ⟨(0),(by first|rfl|(simp;done)|(simp [*];done)),H',⟨Nat.le_refl _⟩,⟨zzh1⟩⟩
  case round=>
   clear H';try clear c1
   try clear p2
   try clear c3
   try clear h8
   try clear h9
   try clear j3
   obtain ⟨a0,rfl,HA,HK1,HB⟩:=hrel;cases gk with
   | zero=>exact absurd HA.out (by simp [Qj.l0])
   | succ k1=>
    have H:=HA.out;clear HA;simp only [Qj.l0] at H;by_cases c4:a0 < (l0.length:Int)
    ·
     rw [if_pos c4] at H;have k0:decide (a0 < (l0.length:Int))=true:=decide_eq_true c4;clear c4;by_cases c5 : 0≤a0
     ·
      rw [if_pos c5] at H;have k3:decide (0≤a0)=true:=decide_eq_true c5;clear c5;by_cases c6:a0 < (l1.length:Int)
      ·
       rw [if_pos c6] at H;have k4:decide (a0 < (l1.length:Int))=true:=decide_eq_true c6;clear c6;obtain ⟨k2,A7,H⟩:=zzG H;by_cases c8:k2=true
       ·
        subst c8;replace H:=zzIt H;have H':=zzm H;clear H;try go_wp2
        have e8:=zzm (zzc HB.out);clear HB;have HB:=e8;clear e8;have g7 : 0≤(a0:Int):=zzt;have g8:a0 < (l0.length:Int):=zzt;obtain ⟨a1,e9,g0,g1,g2,h6,a4,a5,a6,a7,a8,a9,b7,b8,b9,c2⟩:=Qs j8.out a0 g7 g8;have c7:=a9;have c9:=a8;have d0:=a7;have d1:=a6;have d2:=a5;have d3:=a4;cases h6;replace a4:=zzx HB.out a4;replace a5:=zzx HB.out a5;replace a6:=zzx HB.out a6;replace a7:=zzx HB.out a7;replace a8:=zzx HB.out a8;replace a9:=zzx HB.out a9;have d4:=zzm b8;have h1:=zzm b7;clear b8 b7;have d5:=zzm c2;have h2:=zzm b9;clear c2 b9;replace g7:=eq_true g7;replace g8:=eq_true g8;have g9 : 0≤(a0:Int):=zzt;have h0:a0 < (l1.length:Int):=zzt;obtain ⟨a2,g3,g4,g5,g6,h7,b0,b1,b2,b3,b4,b5,d6,d7,d8,d9⟩:=Qs j9.out a0 g9 h0;have e0:=b5;have e1:=b4;have e2:=b3;have e3:=b2;have e4:=b1;have e5:=b0;cases h7;replace b0:=zzx HB.out b0;replace b1:=zzx HB.out b1;replace b2:=zzx HB.out b2;replace b3:=zzx HB.out b3;replace b4:=zzx HB.out b4;replace b5:=zzx HB.out b5;have e6:=zzm d7;have h3:=zzm d6;clear d7 d6;have e7:=zzm d9;have h4:=zzm d8;clear d9 d8;replace g9:=eq_true g9;replace h0:=eq_true h0;refine start_ (n:=10) (S:=fun w'=>w'.cell? (a1.add ((a0).toNat * 6))=some (.int .i64 ((Qb l0 a0).f0))∧w'.cell? ⟨(a1.add ((a0).toNat * 6)).block,(a1.add ((a0).toNat * 6)).off+1,none⟩=some (.int .i64 ((Qb l0 a0).f1))∧w'.cell? ⟨(a1.add ((a0).toNat * 6)).block,(a1.add ((a0).toNat * 6)).off+2,none⟩=some (.bool ((Qb l0 a0).f2))∧w'.cell? ⟨(a1.add ((a0).toNat * 6)).block,(a1.add ((a0).toNat * 6)).off+3,none⟩=some (.slice e9 ((Qb l0 a0).f3).length g0)∧w'.cell? ⟨(a1.add ((a0).toNat * 6)).block,(a1.add ((a0).toNat * 6)).off+4,none⟩=some (.bool ((Qb l0 a0).f4))∧w'.cell? ⟨(a1.add ((a0).toNat * 6)).block,(a1.add ((a0).toNat * 6)).off+5,none⟩=some (.slice g1 ((Qb l0 a0).f5).length g2)∧w'.cell? (a2.add ((a0).toNat * 6))=some (.int .i64 ((Qb l1 a0).f0))∧w'.cell? ⟨(a2.add ((a0).toNat * 6)).block,(a2.add ((a0).toNat * 6)).off+1,none⟩=some (.int .i64 ((Qb l1 a0).f1))∧w'.cell? ⟨(a2.add ((a0).toNat * 6)).block,(a2.add ((a0).toNat * 6)).off+2,none⟩=some (.bool ((Qb l1 a0).f2))∧w'.cell? ⟨(a2.add ((a0).toNat * 6)).block,(a2.add ((a0).toNat * 6)).off+3,none⟩=some (.slice g3 ((Qb l1 a0).f3).length g4)∧w'.cell? ⟨(a2.add ((a0).toNat * 6)).block,(a2.add ((a0).toNat * 6)).off+4,none⟩=some (.bool ((Qb l1 a0).f4))∧w'.cell? ⟨(a2.add ((a0).toNat * 6)).block,(a2.add ((a0).toNat * 6)).off+5,none⟩=some (.slice g5 ((Qb l1 a0).f5).length g6)) (ds:=[]) (zzB 10 0) (by kernel_rfl) rfl rfl ⟨(zzx HB.out d3 :),(zzx HB.out d2 :),(zzx HB.out d1 :),(zzx HB.out d0 :),(zzx HB.out c9 :),(zzx HB.out c7 :),(zzx HB.out e5 :),(zzx HB.out e4 :),(zzx HB.out e3 :),(zzx HB.out e2 :),(zzx HB.out e1 :),(zzx HB.out e0 :)⟩ (fun b6=>?_);refine with_tabW Qj.tab6 Qj.bits6 (fun a3 h5=>?_);generalize wr.drew=w9 at HB d4 d5 e6 e7 a4 a5 a6 a7 a8 a9 b0 b1 b2 b3 b4 b5 b6 ⊢;refine zzP 0 17 10 1 a3 ?_
        refine zzP 1 18 10 3 a3 ?_
        refine zzP 2 19 10 7 a3 ?_
        refine zzP 4 21 10 23 a3 ?_
        refine zzP 5 22 10 55 a3 ?_
        refine zzP 6 23 10 119 a3 ?_
        refine zzT 3 20 10 127 a3 h5 b6 ?_
        refine zzT 7 24 10 255 a3 h5 b6 ?_
        refine one_ (i:=8) (N:=some 25) (zzB 10 511) rfl rfl (one_of a3.out (by kernel_rfl)) (by decide) (fun K hK=>?_);refine goes_ Try.func56 (by kernel_rfl) rfl #[.agg #[.int .i64 ((Qb l0 a0).f0),.int .i64 ((Qb l0 a0).f1),.bool ((Qb l0 a0).f2),.slice e9 ((Qb l0 a0).f3).length g0,.bool ((Qb l0 a0).f4),.slice g1 ((Qb l0 a0).f5).length g2],.agg #[.int .i64 ((Qb l1 a0).f0),.int .i64 ((Qb l1 a0).f1),.bool ((Qb l1 a0).f2),.slice g3 ((Qb l1 a0).f3).length g4,.bool ((Qb l1 a0).f4),.slice g5 ((Qb l1 a0).f5).length g6]] (by rfl) rfl rfl zzM2 ?_;with_reducible refine (Rt.calls k1 ((Qb l0 a0).f0) ((Qb l0 a0).f1) ((Qb l0 a0).f2) _ _ ((Qb l0 a0).f3) ((Qb l0 a0).f4) _ _ ((Qb l0 a0).f5) ((Qb l1 a0).f0) ((Qb l1 a0).f1) ((Qb l1 a0).f2) _ _ ((Qb l1 a0).f3) ((Qb l1 a0).f4) _ _ ((Qb l1 a0).f5) true _ ?side1 ?side2 ?side3 ?side4 ?side5 ?side6 ?side7 ?side8 A7.out).mono ?_
        (case side1=>exact zzcb d4 HB)
        (case side2=>exact h1.out)
        (case side3=>exact zzcb d5 HB)
        (case side4=>exact h2.out)
        (case side5=>exact zzcb e6 HB)
        (case side6=>exact h3.out)
        (case side7=>exact zzcb e7 HB)
        (case side8=>exact h4.out);rintro e k7 ⟨rfl,hb⟩;refine ⟨_,rfl,?_⟩;have e8:=zzm (zzp zzh1 hb);clear HB;have HB:=e8;clear e8
        (try clear hb)
        (try clear hb2)
        (try clear hk)
        (try clear hi);refine hK.out _ _ ⟨(zzx HB.out d3 :),(zzx HB.out d2 :),(zzx HB.out d1 :),(zzx HB.out d0 :),(zzx HB.out c9 :),(zzx HB.out c7 :),(zzx HB.out e5 :),(zzx HB.out e4 :),(zzx HB.out e3 :),(zzx HB.out e2 :),(zzx HB.out e1 :),(zzx HB.out e0 :)⟩ (fun b6=>?_);clear hK K;refine zzO 25 ?_
        refine zzP 9 26 10 1023 a3 ?_
        refine done_ (done_of a3.out (by kernel_rfl)) ?_;try go_wp2
        go_roundg k1
        case measure=>have:=HK1.out;omega
        case rel=>exact ⟨(wrap64 (a0+1)),(by first|rfl|(simp;done)|(simp [*];done)),H',⟨by have:=HK1.out;omega⟩,⟨zzh1⟩⟩
       ·
        replace c8:=Bool.eq_false_iff.mpr c8;subst c8;replace H:=zzIf H;obtain rfl:=Option.some.inj H;try go_wp2
        have e8:=zzm (zzc HB.out);clear HB;have HB:=e8;clear e8;have g7 : 0≤(a0:Int):=zzt;have g8:a0 < (l0.length:Int):=zzt;obtain ⟨a1,e9,g0,g1,g2,h6,a4,a5,a6,a7,a8,a9,b7,b8,b9,c2⟩:=Qs j8.out a0 g7 g8;have c7:=a9;have c9:=a8;have d0:=a7;have d1:=a6;have d2:=a5;have d3:=a4;cases h6;replace a4:=zzx HB.out a4;replace a5:=zzx HB.out a5;replace a6:=zzx HB.out a6;replace a7:=zzx HB.out a7;replace a8:=zzx HB.out a8;replace a9:=zzx HB.out a9;have d4:=zzm b8;have h1:=zzm b7;clear b8 b7;have d5:=zzm c2;have h2:=zzm b9;clear c2 b9;replace g7:=eq_true g7;replace g8:=eq_true g8;have g9 : 0≤(a0:Int):=zzt;have h0:a0 < (l1.length:Int):=zzt;obtain ⟨a2,g3,g4,g5,g6,h7,b0,b1,b2,b3,b4,b5,d6,d7,d8,d9⟩:=Qs j9.out a0 g9 h0;have e0:=b5;have e1:=b4;have e2:=b3;have e3:=b2;have e4:=b1;have e5:=b0;cases h7;replace b0:=zzx HB.out b0;replace b1:=zzx HB.out b1;replace b2:=zzx HB.out b2;replace b3:=zzx HB.out b3;replace b4:=zzx HB.out b4;replace b5:=zzx HB.out b5;have e6:=zzm d7;have h3:=zzm d6;clear d7 d6;have e7:=zzm d9;have h4:=zzm d8;clear d9 d8;replace g9:=eq_true g9;replace h0:=eq_true h0;refine start_ (n:=10) (S:=fun w'=>w'.cell? (a1.add ((a0).toNat * 6))=some (.int .i64 ((Qb l0 a0).f0))∧w'.cell? ⟨(a1.add ((a0).toNat * 6)).block,(a1.add ((a0).toNat * 6)).off+1,none⟩=some (.int .i64 ((Qb l0 a0).f1))∧w'.cell? ⟨(a1.add ((a0).toNat * 6)).block,(a1.add ((a0).toNat * 6)).off+2,none⟩=some (.bool ((Qb l0 a0).f2))∧w'.cell? ⟨(a1.add ((a0).toNat * 6)).block,(a1.add ((a0).toNat * 6)).off+3,none⟩=some (.slice e9 ((Qb l0 a0).f3).length g0)∧w'.cell? ⟨(a1.add ((a0).toNat * 6)).block,(a1.add ((a0).toNat * 6)).off+4,none⟩=some (.bool ((Qb l0 a0).f4))∧w'.cell? ⟨(a1.add ((a0).toNat * 6)).block,(a1.add ((a0).toNat * 6)).off+5,none⟩=some (.slice g1 ((Qb l0 a0).f5).length g2)∧w'.cell? (a2.add ((a0).toNat * 6))=some (.int .i64 ((Qb l1 a0).f0))∧w'.cell? ⟨(a2.add ((a0).toNat * 6)).block,(a2.add ((a0).toNat * 6)).off+1,none⟩=some (.int .i64 ((Qb l1 a0).f1))∧w'.cell? ⟨(a2.add ((a0).toNat * 6)).block,(a2.add ((a0).toNat * 6)).off+2,none⟩=some (.bool ((Qb l1 a0).f2))∧w'.cell? ⟨(a2.add ((a0).toNat * 6)).block,(a2.add ((a0).toNat * 6)).off+3,none⟩=some (.slice g3 ((Qb l1 a0).f3).length g4)∧w'.cell? ⟨(a2.add ((a0).toNat * 6)).block,(a2.add ((a0).toNat * 6)).off+4,none⟩=some (.bool ((Qb l1 a0).f4))∧w'.cell? ⟨(a2.add ((a0).toNat * 6)).block,(a2.add ((a0).toNat * 6)).off+5,none⟩=some (.slice g5 ((Qb l1 a0).f5).length g6)) (ds:=[]) (zzB 10 0) (by kernel_rfl) rfl rfl ⟨(zzx HB.out d3 :),(zzx HB.out d2 :),(zzx HB.out d1 :),(zzx HB.out d0 :),(zzx HB.out c9 :),(zzx HB.out c7 :),(zzx HB.out e5 :),(zzx HB.out e4 :),(zzx HB.out e3 :),(zzx HB.out e2 :),(zzx HB.out e1 :),(zzx HB.out e0 :)⟩ (fun b6=>?_);refine with_tabW Qj.tab6 Qj.bits6 (fun a3 h5=>?_);generalize wr.drew=k8 at HB d4 d5 e6 e7 a4 a5 a6 a7 a8 a9 b0 b1 b2 b3 b4 b5 b6 ⊢;refine zzP 0 17 10 1 a3 ?_
        refine zzP 1 18 10 3 a3 ?_
        refine zzP 2 19 10 7 a3 ?_
        refine zzP 4 21 10 23 a3 ?_
        refine zzP 5 22 10 55 a3 ?_
        refine zzP 6 23 10 119 a3 ?_
        refine zzT 3 20 10 127 a3 h5 b6 ?_
        refine zzT 7 24 10 255 a3 h5 b6 ?_
        refine one_ (i:=8) (N:=some 25) (zzB 10 511) rfl rfl (one_of a3.out (by kernel_rfl)) (by decide) (fun K hK=>?_);refine goes_ Try.func56 (by kernel_rfl) rfl #[.agg #[.int .i64 ((Qb l0 a0).f0),.int .i64 ((Qb l0 a0).f1),.bool ((Qb l0 a0).f2),.slice e9 ((Qb l0 a0).f3).length g0,.bool ((Qb l0 a0).f4),.slice g1 ((Qb l0 a0).f5).length g2],.agg #[.int .i64 ((Qb l1 a0).f0),.int .i64 ((Qb l1 a0).f1),.bool ((Qb l1 a0).f2),.slice g3 ((Qb l1 a0).f3).length g4,.bool ((Qb l1 a0).f4),.slice g5 ((Qb l1 a0).f5).length g6]] (by rfl) rfl rfl zzM2 ?_;with_reducible refine (Rt.calls k1 ((Qb l0 a0).f0) ((Qb l0 a0).f1) ((Qb l0 a0).f2) _ _ ((Qb l0 a0).f3) ((Qb l0 a0).f4) _ _ ((Qb l0 a0).f5) ((Qb l1 a0).f0) ((Qb l1 a0).f1) ((Qb l1 a0).f2) _ _ ((Qb l1 a0).f3) ((Qb l1 a0).f4) _ _ ((Qb l1 a0).f5) false _ ?side1 ?side2 ?side3 ?side4 ?side5 ?side6 ?side7 ?side8 A7.out).mono ?_
        (case side1=>exact zzcb d4 HB)
        (case side2=>exact h1.out)
        (case side3=>exact zzcb d5 HB)
        (case side4=>exact h2.out)
        (case side5=>exact zzcb e6 HB)
        (case side6=>exact h3.out)
        (case side7=>exact zzcb e7 HB)
        (case side8=>exact h4.out);rintro e k9 ⟨rfl,hb⟩;refine ⟨_,rfl,?_⟩;have e8:=zzm (zzp zzh1 hb);clear HB;have HB:=e8;clear e8
        (try clear hb)
        (try clear hb2)
        (try clear hk)
        (try clear hi);refine hK.out _ _ ⟨(zzx HB.out d3 :),(zzx HB.out d2 :),(zzx HB.out d1 :),(zzx HB.out d0 :),(zzx HB.out c9 :),(zzx HB.out c7 :),(zzx HB.out e5 :),(zzx HB.out e4 :),(zzx HB.out e3 :),(zzx HB.out e2 :),(zzx HB.out e1 :),(zzx HB.out e0 :)⟩ (fun b6=>?_);clear hK K;refine zzO 25 ?_
        refine zzP 9 26 10 1023 a3 ?_
        refine done_ (done_of a3.out (by kernel_rfl)) ?_;try go_wp2
        go_ret;exact ⟨zzR,zzh1⟩
      ·
       rw [if_neg c6] at H;exact absurd H (by simp)
     ·
      rw [if_neg c5] at H;exact absurd H (by simp)
    ·
     rw [if_neg c4] at H;have k0:decide (a0 < (l0.length:Int))=false:=decide_eq_false c4;clear c4;obtain rfl:=Option.some.inj H;go_wp2;go_ret;exact ⟨zzR,zzh1⟩
 ·
  rw [if_neg c3] at H;obtain ⟨h8,h9⟩:=zzY c3;have j3:(l0.length==l1.length)=false:=by first|simpa using c3|(simp at c3 ⊢;omega)
  obtain rfl:=Option.some.inj H;go_enter Try.func40,Try.ntmps40;go_wp2;go_ret;exact ⟨zzR,zzh1⟩
end Go.Proofs.Ytnjalgheihiagaa.T
