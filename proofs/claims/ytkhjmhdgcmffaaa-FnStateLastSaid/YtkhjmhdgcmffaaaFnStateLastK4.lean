/- The law FnStateLast holds (part 5 of 7; merged by pack2.py). -/
import Derived.Test.YtkhjmhdgcmffaaaFnStateLastK3
open List (setIfInBounds_toArray set_cons_zero set_cons_succ map_toArray map_cons map_nil length_drop length_take)
namespace Go.Proofs.Ytkhjmhdgcmffaaa.U
open Go.RowKit Go.Proofs.YtkhjmhdgcmffaaaW.PrintWords Go.Proofs.YtkhjmhdgcmffaaaW.PrintLast Go.Proofs.YtkhjmhdgcmffaaaW.PrintMore
attribute [local go_sem] max2_int max_two
set_option linter.unusedVariables false
set_option linter.unusedSimpArgs false
def Qz.l0:Nat→List Int→Int→List Int→Int→Option (Bool)
 | 0,_,_,_,_=>none
 | k+1,x0,x1,x2,x7=>if x7 < (x2.length:Int) then (if 0≤(wrap64 (x1+x7)) then (if (wrap64 (x1+x7)) < (x0.length:Int) then (if 0≤x7 then (if (rd x0 (wrap64 (x1+x7)))=(rd x2 x7) then (Qz.l0 k x0 x1 x2 (wrap64 (x7+1))) else (some false)) else (none)) else (none)) else (none)) else (some true)
def Qz.f (k:Nat) (l0:List Int) (a1:Int) (l2:List Int):Option (Bool):=if (wrap64 (a1+(l2.length:Int))) > (l0.length:Int) then (some false) else (Qz.l0 k l0 a1 l2 0)
set_option maxHeartbeats 8000000 in
set_option maxRecDepth 100000 in
theorem Qz.calls (k:Nat) (A0:Option Addr) (c0:Nat) (l0:List Int) (a1:Int) (A2:Option Addr) (c2:Nat) (l2:List Int) (r:Bool) (w:World) (hr0:Kd.C (Kd.int .i64) w A0 l0.length l0) (hc0:l0.length≤c0) (hr2:Kd.C (Kd.int .i64) w A2 l2.length l2) (hc2:l2.length≤c2) (h:Qz.f k l0 a1 l2=some r) :
  Calls Try.prog 98 #[.slice A0 l0.length c0,.int .i64 a1,.slice A2 l2.length c2] w fun e w'=>e = .returned (.bool r)∧Drawn0 w w':=by
 have HR0:=zzm hr0;have HC0:=zzm hc0;clear hr0 hc0;have HR2:=zzm hr2;have HC2:=zzm hc2;clear hr2 hc2;have H:(if (wrap64 (a1+(l2.length:Int))) > (l0.length:Int) then (some false) else (Qz.l0 k l0 a1 l2 0))=some r:=h;clear h;by_cases c4:(wrap64 (a1+(l2.length:Int))) > (l0.length:Int)
 ·
  rw [if_pos c4] at H;have c4b0:decide ((l0.length:Int) < (wrap64 (a1+(l2.length:Int))))=true:=decide_eq_true c4;clear c4;obtain rfl:=Option.some.inj H;go_enter Try.func98,Try.ntmps98;go_wp2;repeat (go_quiet (fail);try go_wp2)
  go_ret;exact ⟨by first|rfl|(simp;done)|(simp [*];done),by repeat (first|exact Drawn0.refl _|apply Drawn0.step)⟩
 ·
  rw [if_neg c4] at H;have c4b0:decide ((l0.length:Int) < (wrap64 (a1+(l2.length:Int))))=false:=decide_eq_false c4;clear c4;have H':=zzm H;clear H;go_enter Try.func98,Try.ntmps98;go_wp2;repeat (go_quiet (fail);try go_wp2)
  go_loopg [7] k (fun kq v7 w'=>∃ (x7_1:Int),v7 = .int .i64 x7_1∧Aside0 (Qz.l0 kq l0 a1 l2 x7_1=some r)∧Aside0 (kq≤k)∧Drawn0 w w')
  case atStart=>exact ⟨(0),(by first|rfl|(simp;done)|(simp [*];done)),H',⟨Nat.le_refl _⟩,by repeat (first|exact Drawn0.refl _|apply Drawn0.step)⟩
  case round=>
   clear H';try clear c2
   try clear p2
   try clear c4
   try clear c4b0
   obtain ⟨x7_1,rfl,HA,HK1,⟨m1,rfl⟩⟩:=hrel;cases gk with
   | zero=>exact absurd HA.out (by simp [Qz.l0])
   | succ k1=>
    have H:=HA.out;clear HA;simp only [Qz.l0] at H;by_cases c5:x7_1 < (l2.length:Int)
    ·
     rw [if_pos c5] at H;have c5b0:decide (x7_1 < (l2.length:Int))=true:=decide_eq_true c5;clear c5;obtain ⟨ji6,hji6⟩:∃ j_:Int,(wrap64 (a1+x7_1))=j_:=⟨_,rfl⟩;replace H:(if 0≤(ji6) then (if (ji6) < (l0.length:Int) then (if 0≤x7_1 then (if (rd l0 (ji6))=(rd l2 x7_1) then (Qz.l0 k1 l0 a1 l2 (wrap64 (x7_1+1))) else (some false)) else (none)) else (none)) else (none))=some r:=by first|(rw [hji6] at H;exact H)|(simp only [hji6] at H ⊢;exact H)
     have hji6w:(IntKind.i64.wrap (a1+x7_1))=ji6:=(i64_w _).trans hji6;by_cases c7 : 0≤(ji6)
     ·
      rw [if_pos c7] at H;have c7b0:decide (0≤(ji6))=true:=decide_eq_true c7;clear c7;by_cases c8:(ji6) < (l0.length:Int)
      ·
       rw [if_pos c8] at H;have c8b0:decide ((ji6) < (l0.length:Int))=true:=decide_eq_true c8;clear c8;by_cases c9 : 0≤x7_1
       ·
        rw [if_pos c9] at H;have c9b0:decide (0≤x7_1)=true:=decide_eq_true c9;clear c9;by_cases c10:(rd l0 (ji6))=(rd l2 x7_1)
        ·
         rw [if_pos c10] at H;have c10b0:((rd l0 (ji6))==(rd l2 x7_1))=true:=beq_iff_eq.mpr c10;have c10b1:((rd l0 (ji6)) != (rd l2 x7_1))=false:=bne_eq_false_iff_eq.mpr c10;clear c10;have H':=zzm H;clear H;have p331 : 0≤((ji6):Int):=zzt;have q331:(ji6) < (l0.length:Int):=zzt;obtain ⟨ad331,e331,hx331_0⟩:=Kd.at_int HR0.out (ji6) p331 q331;cases e331;replace p331:=eq_true p331;replace q331:=eq_true q331;have p332 : 0≤(x7_1:Int):=zzt;have q332:x7_1 < (l2.length:Int):=zzt;obtain ⟨ad332,e332,hx332_0⟩:=Kd.at_int HR2.out x7_1 p332 q332;cases e332;replace p332:=eq_true p332;replace q332:=eq_true q332;go_wp2;repeat (go_quiet (fail);try go_wp2)
         go_roundg k1
         case measure=>have:=HK1.out;omega
         case rel=>exact ⟨(wrap64 (x7_1+1)),(by first|rfl|(simp;done)|(simp [*];done)),H',⟨by have:=HK1.out;omega⟩,by repeat (first|exact Drawn0.refl _|apply Drawn0.step)⟩
        ·
         rw [if_neg c10] at H;have c10b0:((rd l0 (ji6))==(rd l2 x7_1))=false:=beq_eq_false_iff_ne.mpr c10;have c10b1:((rd l0 (ji6)) != (rd l2 x7_1))=true:=bne_iff_ne.mpr c10;obtain rfl:=Option.some.inj H;have p331 : 0≤((ji6):Int):=zzt;have q331:(ji6) < (l0.length:Int):=zzt;obtain ⟨ad331,e331,hx331_0⟩:=Kd.at_int HR0.out (ji6) p331 q331;cases e331;replace p331:=eq_true p331;replace q331:=eq_true q331;have p332 : 0≤(x7_1:Int):=zzt;have q332:x7_1 < (l2.length:Int):=zzt;obtain ⟨ad332,e332,hx332_0⟩:=Kd.at_int HR2.out x7_1 p332 q332;cases e332;replace p332:=eq_true p332;replace q332:=eq_true q332;go_wp2;repeat (go_quiet (fail);try go_wp2)
         go_ret;exact ⟨by first|rfl|(simp;done)|(simp only [← hji6] <;> (first|rfl|simp))|(simp [*];done),by repeat (first|exact Drawn0.refl _|apply Drawn0.step)⟩
       ·
        rw [if_neg c9] at H;exact absurd H (by simp)
      ·
       rw [if_neg c8] at H;exact absurd H (by simp)
     ·
      rw [if_neg c7] at H;exact absurd H (by simp)
    ·
     rw [if_neg c5] at H;have c5b0:decide (x7_1 < (l2.length:Int))=false:=decide_eq_false c5;clear c5;obtain rfl:=Option.some.inj H;go_wp2;repeat (go_quiet (fail);try go_wp2)
     go_ret;exact ⟨by first|rfl|(simp;done)|(simp [*];done),by repeat (first|exact Drawn0.refl _|apply Drawn0.step)⟩
def Q6.f (k:Nat) (l0:List Int) (l1:List Int):Option (Bool):=if (l0.length:Int)=(l1.length:Int) then ((Qz.f k l0 0 l1).bind fun t333=>(some t333)) else (some false)
set_option maxHeartbeats 8000000 in
set_option maxRecDepth 100000 in
theorem Q6.calls (k:Nat) (A0:Option Addr) (c0:Nat) (l0:List Int) (A1:Option Addr) (c1:Nat) (l1:List Int) (r:Bool) (w:World) (hr0:Kd.C (Kd.int .i64) w A0 l0.length l0) (hc0:l0.length≤c0) (hr1:Kd.C (Kd.int .i64) w A1 l1.length l1) (hc1:l1.length≤c1) (h:Q6.f k l0 l1=some r) :
  Calls Try.prog 89 #[.slice A0 l0.length c0,.slice A1 l1.length c1] w fun e w'=>e = .returned (.bool r)∧Drawn0 w w':=by
 have HR0:=zzm hr0;have HC0:=zzm hc0;clear hr0 hc0;have HR1:=zzm hr1;have HC1:=zzm hc1;clear hr1 hc1;have H:(if (l0.length:Int)=(l1.length:Int) then ((Qz.f k l0 0 l1).bind fun t333=>(some t333)) else (some false))=some r:=h;clear h;by_cases c3:(l0.length:Int)=(l1.length:Int)
 ·
  rw [if_pos c3] at H;have c3b0:((l0.length:Int)==(l1.length:Int))=true:=beq_iff_eq.mpr c3;have c3b1:((l0.length:Int) != (l1.length:Int))=false:=bne_eq_false_iff_eq.mpr c3;have c3b2:(l0.length==l1.length)=true:=by first|simpa using c3|(simp at c3 ⊢;omega)
  clear c3;replace H:=Option.bind_eq_some_iff.mp H;obtain ⟨t333,A40,H⟩:=H;replace H:(some t333)=some r:=H;have A4:=zzm A40;clear A40;obtain rfl:=Option.some.inj H;go_enter Try.func89,Try.ntmps89;go_wp2_with (first|(go_at_call 98;(with_reducible refine (Qz.calls k _ _ l0 0 _ _ l1 t333 _ ?side1 ?side2 ?side3 ?side4 A4.out).mono ?_);(case side1=>repeat (first|exact HR0.out|(with_reducible refine Kd.C_alloc ?_ _)|(with_reducible refine Kd.C_drewN ?_ _)|(with_reducible refine Kd.C_drew ?_)));(case side2=>exact HC0.out);(case side3=>repeat (first|exact HR1.out|(with_reducible refine Kd.C_alloc ?_ _)|(with_reducible refine Kd.C_drewN ?_ _)|(with_reducible refine Kd.C_drew ?_)));(case side4=>exact HC1.out);rintro e w' ⟨rfl,⟨nd,rfl⟩⟩));go_ret;exact ⟨by first|rfl|(simp;done)|(simp [*];done),by repeat (first|exact Drawn0.refl _|apply Drawn0.step)⟩
 ·
  rw [if_neg c3] at H;have c3b0:((l0.length:Int)==(l1.length:Int))=false:=beq_eq_false_iff_ne.mpr c3;have c3b1:((l0.length:Int) != (l1.length:Int))=true:=bne_iff_ne.mpr c3;have c3b2:(l0.length==l1.length)=false:=by first|simpa using c3|(simp at c3 ⊢;omega)
  obtain rfl:=Option.some.inj H;go_enter Try.func89,Try.ntmps89;go_wp2;go_ret;exact ⟨by first|rfl|(simp;done)|(simp [*];done),by repeat (first|exact Drawn0.refl _|apply Drawn0.step)⟩
mutual
def Qk.l0:Nat→List (S34)→Int→Int→Int→Bool→List Int→Bool→List Int→Option (Bool)
 | 0,_,_,_,_,_,_,_,_=>none
 | k+1,x0,x5,x335000,x335001,x335002,x335003,x335004,x335005=>if x5 < (x0.length:Int) then (Qk.l1 k x0 x5 0 x335000 x335001 x335002 x335003 x335004 x335005) else (some false)
def Qk.l1:Nat→List (S34)→Int→Int→Int→Int→Bool→List Int→Bool→List Int→Option (Bool)
 | 0,_,_,_,_,_,_,_,_,_=>none
 | k+1,x0,x5,x6,x335000,x335001,x335002,x335003,x335004,x335005=>if 0≤x5 then (if x5 < (x0.length:Int) then (if x6 < (((Qa x0 x5).f5).length:Int) then (if 0≤x6 then (if ((Qa x0 x5).f1=true) then (Qk.l1 k x0 x5 (wrap64 (x6+1)) x335000 x335001 x335002 x335003 x335004 x335005) else (if (Qb ((Qa x0 x5).f5) x6).f2=true then (if ((Qb ((Qa x0 x5).f5) x6).f0) > x335000 then ((Q6.f k ((Qb ((Qa x0 x5).f5) x6).f3) x335003).bind fun t340=>(if t340=true then (some true) else (Qk.l1 k x0 x5 (wrap64 (x6+1)) x335000 x335001 x335002 x335003 x335004 x335005))) else (Qk.l1 k x0 x5 (wrap64 (x6+1)) x335000 x335001 x335002 x335003 x335004 x335005)) else (Qk.l1 k x0 x5 (wrap64 (x6+1)) x335000 x335001 x335002 x335003 x335004 x335005))) else (none)) else (Qk.l0 k x0 (wrap64 (x5+1)) x335000 x335001 x335002 x335003 x335004 x335005)) else (none)) else (none)
end
def Qk.f (k:Nat) (l0:List (S34)) (a1_0:Int) (a1_1:Int) (a1_2:Bool) (l1_3:List Int) (a1_4:Bool) (l1_5:List Int):Option (Bool):=Qk.l0 k l0 0 a1_0 a1_1 a1_2 l1_3 a1_4 l1_5
set_option maxHeartbeats 8000000 in
set_option maxRecDepth 100000 in
theorem Qk.calls (k:Nat) (A0:Option Addr) (c0:Nat) (l0:List (S34)) (a1_0:Int) (a1_1:Int) (a1_2:Bool) (A1_3:Option Addr) (c1_3:Nat) (l1_3:List Int) (a1_4:Bool) (A1_5:Option Addr) (c1_5:Nat) (l1_5:List Int) (r:Bool) (w:World) (hr0:Kd.C k34 w A0 l0.length l0) (hc0:l0.length≤c0) (hr1_3:Kd.C (Kd.int .i64) w A1_3 l1_3.length l1_3) (hc1_3:l1_3.length≤c1_3) (hr1_5:Kd.C (Kd.int .i64) w A1_5 l1_5.length l1_5) (hc1_5:l1_5.length≤c1_5) (h:Qk.f k l0 a1_0 a1_1 a1_2 l1_3 a1_4 l1_5=some r) :
  Calls Try.prog 73 #[.slice A0 l0.length c0,.agg #[.int .i64 a1_0,.int .i64 a1_1,.bool a1_2,.slice A1_3 l1_3.length c1_3,.bool a1_4,.slice A1_5 l1_5.length c1_5]] w fun e w'=>e = .returned (.bool r)∧Below w.heap.size w w':=by
 have hu30:=Try.underlying30;have HR0:=zzm hr0;have HC0:=zzm hc0;clear hr0 hc0;have HR1_3:=zzm hr1_3;have HC1_3:=zzm hc1_3;clear hr1_3 hc1_3;have HR1_5:=zzm hr1_5;have HC1_5:=zzm hc1_5;clear hr1_5 hc1_5;have HB:=zzm (Below.refl w.heap.size w);have H:(Qk.l0 k l0 0 a1_0 a1_1 a1_2 l1_3 a1_4 l1_5)=some r:=h;clear h;have H':=zzm H;clear H;go_enter Try.func73,Try.ntmps73;go_wp2_with (first|((with_reducible refine gate_dst (N:=3) rfl ?_);refine box_event ?hg (N:=3) ?hd (cs:=#[.int .i64 a1_0,.int .i64 a1_1,.bool a1_2,.slice A1_3 l1_3.length c1_3,.bool a1_4,.slice A1_5 l1_5.length c1_5]) (t:=30) ?hr ?_;(case hd=>rfl);(case hg=>rfl);(case hr=>first|(go_simp;done)|(go_simp;rfl));intro gb334 hg w3 hbox hb;have n0_:=zzm (zzp zzh1 hb);have n1_:=zzm (hbox);have n2_:=zzm ((by rw [hg];exact (zzo zzh1):w.heap.size≤gb334));have n3_:=zzm ((by rw [hg];exact (zzo zzh1):w.heap.size≤gb334));clear HB;have HB:=n0_;have BK334:=n1_;have GW334:=n2_;have GE334:=n3_;clear n0_ n1_ n2_ n3_ hb hbox hg));go_loopg [5] k (fun kq v5 w'=>∃ (x5_1:Int),v5 = .int .i64 x5_1∧Aside0 (Qk.l0 kq l0 x5_1 a1_0 a1_1 a1_2 l1_3 a1_4 l1_5=some r)∧Aside0 (kq≤k)∧Aside0 (w'.heap[gb334]? = some (.cells #[.int .i64 a1_0,.int .i64 a1_1,.bool a1_2,(.slice A1_3 l1_3.length c1_3),.bool a1_4,(.slice A1_5 l1_5.length c1_5)] 30 (0,0)))∧Aside0 (Below w.heap.size w w'))
 case atStart=>exact ⟨(0),(by first|rfl|(simp;done)|(simp [*];done)),H',⟨Nat.le_refl _⟩,⟨by (with_reducible repeat (first|apply zzf|apply zzg|apply zze));exact BK334.out⟩,⟨by repeat (first|(with_reducible first|exact HB.out|apply zza|apply zzb|apply zzc|refine zzd ?_ GE334.out)|exact HB.out)⟩⟩
 case round=>
  clear H';try clear c1
  try clear p2
  obtain ⟨x5_1,rfl,HA,HK1,BK334,HB⟩:=hrel;cases gk with
  | zero=>exact absurd HA.out (by simp [Qk.l0])
  | succ k1=>
   have H:=HA.out;clear HA;simp only [Qk.l0] at H;by_cases c4:x5_1 < (l0.length:Int)
   ·
    rw [if_pos c4] at H;have c4b0:decide (x5_1 < (l0.length:Int))=true:=decide_eq_true c4;clear c4;have H':=zzm H;clear H;go_wp2;go_loopg [6] k1 (fun kq v6 w'=>∃ (x6_2:Int),v6 = .int .i64 x6_2∧Aside0 (Qk.l1 kq l0 x5_1 x6_2 a1_0 a1_1 a1_2 l1_3 a1_4 l1_5=some r)∧Aside0 (kq≤k1)∧Aside0 (w'.heap[gb334]? = some (.cells #[.int .i64 a1_0,.int .i64 a1_1,.bool a1_2,(.slice A1_3 l1_3.length c1_3),.bool a1_4,(.slice A1_5 l1_5.length c1_5)] 30 (0,0)))∧Aside0 (Below w.heap.size w w'))
    case atStart=>exact ⟨(0),(by first|rfl|(simp;done)|(simp [*];done)),H',⟨Nat.le_refl _⟩,⟨by (with_reducible repeat (first|apply zzf|apply zzg|apply zze));exact BK334.out⟩,⟨by repeat (first|(with_reducible first|exact HB.out|apply zza|apply zzb|apply zzc|refine zzd ?_ GE334.out)|exact HB.out)⟩⟩
    case round=>
     clear H';try clear c1
     try clear p2
     try clear c4
     try clear c4b0
     try clear p2
     obtain ⟨x6_2,rfl,HA,HK2,BK334,HB⟩:=hrel;cases gk with
     | zero=>exact absurd HA.out (by simp [Qk.l1])
     | succ k2=>
      have H:=HA.out;clear HA;simp only [Qk.l1] at H;by_cases c5 : 0≤x5_1
      ·
       rw [if_pos c5] at H;have c5b0:decide (0≤x5_1)=true:=decide_eq_true c5;clear c5;by_cases c6:x5_1 < (l0.length:Int)
       ·
        rw [if_pos c6] at H;have c6b0:decide (x5_1 < (l0.length:Int))=true:=decide_eq_true c6;clear c6;by_cases c7:x6_2 < (((Qa l0 x5_1).f5).length:Int)
        ·
         rw [if_pos c7] at H;have c7b0:decide (x6_2 < (((Qa l0 x5_1).f5).length:Int))=true:=decide_eq_true c7;clear c7;by_cases c8 : 0≤x6_2
         ·
          rw [if_pos c8] at H;have c8b0:decide (0≤x6_2)=true:=decide_eq_true c8;clear c8;obtain ⟨bq9,hbq9⟩:∃ b_:Bool,b_=((Qa l0 x5_1).f1):=⟨_,rfl⟩;replace H:(if (bq9=true) then (Qk.l1 k2 l0 x5_1 (wrap64 (x6_2+1)) a1_0 a1_1 a1_2 l1_3 a1_4 l1_5) else (if (Qb ((Qa l0 x5_1).f5) x6_2).f2=true then (if ((Qb ((Qa l0 x5_1).f5) x6_2).f0) > a1_0 then ((Q6.f k2 ((Qb ((Qa l0 x5_1).f5) x6_2).f3) l1_3).bind fun t340=>(if t340=true then (some true) else (Qk.l1 k2 l0 x5_1 (wrap64 (x6_2+1)) a1_0 a1_1 a1_2 l1_3 a1_4 l1_5))) else (Qk.l1 k2 l0 x5_1 (wrap64 (x6_2+1)) a1_0 a1_1 a1_2 l1_3 a1_4 l1_5)) else (Qk.l1 k2 l0 x5_1 (wrap64 (x6_2+1)) a1_0 a1_1 a1_2 l1_3 a1_4 l1_5)))=some r:=by rw [← hbq9] at H;exact H
          have Nbq9:=zzm hbq9;clear hbq9;by_cases c10:(bq9=true)
          ·
           subst c10;have H1:(Qk.l1 k2 l0 x5_1 (wrap64 (x6_2+1)) a1_0 a1_1 a1_2 l1_3 a1_4 l1_5)=some r:=by rw [if_pos rfl] at H;exact H
           clear H;have H:=H1;clear H1;have H':=zzm H;clear H;have p335 : 0≤(x5_1:Int):=zzt;have q335:x5_1 < (l0.length:Int):=zzt;obtain ⟨ad335,A335_5,c335_5,e335,hx335_0,hx335_1,hx335_2,hx335_3,hx335_4,hx335_5,hl335_5,hi335_5⟩:=Qw HR0.out x5_1 p335 q335
           (try rw [← Nbq9.out] at hx335_0)
           (try rw [← Nbq9.out] at hx335_1);cases e335;replace hx335_0:=zzx HB.out hx335_0;replace hx335_1:=zzx HB.out hx335_1;replace hx335_2:=zzx HB.out hx335_2;replace hx335_3:=zzx HB.out hx335_3;replace hx335_4:=zzx HB.out hx335_4;replace hx335_5:=zzx HB.out hx335_5;have HR335_5:=zzm hi335_5;have HC335_5:=zzm hl335_5;clear hi335_5 hl335_5;replace p335:=eq_true p335;replace q335:=eq_true q335;have p336 : 0≤(x5_1:Int):=zzt;have q336:x5_1 < (l0.length:Int):=zzt;obtain ⟨ad336,A336_5,c336_5,e336,hx336_0,hx336_1,hx336_2,hx336_3,hx336_4,hx336_5,hl336_5,hi336_5⟩:=Qw HR0.out x5_1 p336 q336
           (try rw [← Nbq9.out] at hx336_0)
           (try rw [← Nbq9.out] at hx336_1);obtain rfl:ad335=ad336:=(by injection e336);replace hx336_0:=zzx HB.out hx336_0;replace hx336_1:=zzx HB.out hx336_1;replace hx336_2:=zzx HB.out hx336_2;replace hx336_3:=zzx HB.out hx336_3;replace hx336_4:=zzx HB.out hx336_4;replace hx336_5:=zzx HB.out hx336_5;have HR336_5:=zzm hi336_5;have HC336_5:=zzm hl336_5;clear hi336_5 hl336_5;replace p336:=eq_true p336;replace q336:=eq_true q336;have ea_:=Option.some.inj (hx335_5.symm.trans hx336_5);injection ea_ with ea_ en_ ec_;subst ea_;subst ec_;clear en_;have p337 : 0≤(x6_2:Int):=zzt;have q337:x6_2 < (((Qa l0 x5_1).f5).length:Int):=zzt;obtain ⟨ad337,A337_3,c337_3,A337_5,c337_5,e337,hx337_0,hx337_1,hx337_2,hx337_3,hx337_4,hx337_5,hl337_3,hi337_3,hl337_5,hi337_5⟩:=Qy HR336_5.out x6_2 p337 q337
           (try rw [← Nbq9.out] at hx337_2)
           (try rw [← Nbq9.out] at hx337_4);cases e337;replace hx337_0:=zzx HB.out hx337_0;replace hx337_1:=zzx HB.out hx337_1;replace hx337_2:=zzx HB.out hx337_2;replace hx337_3:=zzx HB.out hx337_3;replace hx337_4:=zzx HB.out hx337_4;replace hx337_5:=zzx HB.out hx337_5;have HR337_3:=zzm hi337_3;have HC337_3:=zzm hl337_3;clear hi337_3 hl337_3;have HR337_5:=zzm hi337_5;have HC337_5:=zzm hl337_5;clear hi337_5 hl337_5;replace p337:=eq_true p337;replace q337:=eq_true q337;go_wp2_with (first|((with_reducible refine gate_dst (N:=7) rfl ?_);refine box_event ?hg (N:=7) ?hd (cs:=#[.int .i64 0,.int .i64 0,.bool false,.slice none 0 0,.bool false,.slice none 0 0]) (t:=30) ?hr ?_;(case hd=>rfl);(case hg=>rfl);(case hr=>first|(go_simp;done)|(go_simp;rfl));intro gb338 hg w11 hbox hb;have n0_:=zzm (zzh (g:=gb334) (o:=.cells #[.int .i64 a1_0,.int .i64 a1_1,.bool a1_2,.slice A1_3 l1_3.length c1_3,.bool a1_4,.slice A1_5 l1_5.length c1_5] 30 (0,0)) (zzE BK334.out) hb);have n1_:=zzm (zzp zzh2 hb);have n2_:=zzm (hbox);have n3_:=zzm ((by rw [hg];exact (zzo zzh2):w.heap.size≤gb338));have n4_:=zzm ((by rw [hg];exact (zzo zzh2):w.heap.size≤gb338));have n5_:=zzm ((by rw [hg];exact Nat.ne_of_lt (blk_lt (g:=gb334) (o:=.cells #[.int .i64 a1_0,.int .i64 a1_1,.bool a1_2,.slice A1_3 l1_3.length c1_3,.bool a1_4,.slice A1_5 l1_5.length c1_5] 30 (0,0)) (zzE BK334.out)):gb334≠gb338));have n6_:=zzm ((by rw [hg];exact Nat.ne_of_gt (blk_lt (g:=gb334) (o:=.cells #[.int .i64 a1_0,.int .i64 a1_1,.bool a1_2,.slice A1_3 l1_3.length c1_3,.bool a1_4,.slice A1_5 l1_5.length c1_5] 30 (0,0)) (zzE BK334.out)):gb338≠gb334));clear BK334 HB;have BK334:=n0_;have HB:=n1_;have BK338:=n2_;have GW338:=n3_;have GE338:=n4_;have NB334_338:=n5_;have NB338_334:=n6_;clear n0_ n1_ n2_ n3_ n4_ n5_ n6_ hb hbox hg;have hnb12:=NB338_334.out;have hnc12:=NB334_338.out;obtain ⟨hcz13_0,hcz13_1,hcz13_2,hcz13_3,hcz13_4,hcz13_5,hfz13_0,hfz13_1,hfz13_2,hfz13_3,hfz13_4,hfz13_5⟩:=zzc6 BK338.out;have p339 : 0≤(x5_1:Int):=zzt;have q339:x5_1 < (l0.length:Int):=zzt;obtain ⟨ad339,A339_5,c339_5,e339,hx339_0,hx339_1,hx339_2,hx339_3,hx339_4,hx339_5,hl339_5,hi339_5⟩:=Qw HR0.out x5_1 p339 q339;(try rw [← Nbq9.out] at hx339_0);(try rw [← Nbq9.out] at hx339_1);obtain rfl:ad335=ad339:=(by injection e339);have hn339_0:ad335.block≠gb338:=Nat.ne_of_lt (Nat.lt_of_lt_of_le (by have:=zzn _ _ hx339_0;first|rwa [add_block] at this|exact this) GW338.out);have hn339_1:ad335.block≠gb338:=Nat.ne_of_lt (Nat.lt_of_lt_of_le (by have:=zzn _ _ hx339_0;first|rwa [add_block] at this|exact this) GW338.out);have hn339_2:ad335.block≠gb338:=Nat.ne_of_lt (Nat.lt_of_lt_of_le (by have:=zzn _ _ hx339_0;first|rwa [add_block] at this|exact this) GW338.out);have hn339_3:ad335.block≠gb338:=Nat.ne_of_lt (Nat.lt_of_lt_of_le (by have:=zzn _ _ hx339_0;first|rwa [add_block] at this|exact this) GW338.out);have hn339_4:ad335.block≠gb338:=Nat.ne_of_lt (Nat.lt_of_lt_of_le (by have:=zzn _ _ hx339_0;first|rwa [add_block] at this|exact this) GW338.out);have hn339_5:ad335.block≠gb338:=Nat.ne_of_lt (Nat.lt_of_lt_of_le (by have:=zzn _ _ hx339_0;first|rwa [add_block] at this|exact this) GW338.out);replace hx339_0:=zzx HB.out hx339_0;replace hx339_1:=zzx HB.out hx339_1;replace hx339_2:=zzx HB.out hx339_2;replace hx339_3:=zzx HB.out hx339_3;replace hx339_4:=zzx HB.out hx339_4;replace hx339_5:=zzx HB.out hx339_5;have HR339_5:=zzm hi339_5;have HC339_5:=zzm hl339_5;clear hi339_5 hl339_5;replace hx339_0:=(cell_far (p:=⟨gb338,0,none⟩) (by first|(rw [add_block];exact hn339_0)|(show (Addr.add _ _).block≠_;rw [add_block];exact hn339_0)|exact hn339_0) (.int .i64 ((Qb ((Qa l0 x5_1).f5) x6_2).f0))).trans hx339_0;replace hx339_1:=(cell_far (p:=⟨gb338,0,none⟩) (by first|(rw [add_block];exact hn339_0)|(show (Addr.add _ _).block≠_;rw [add_block];exact hn339_0)|exact hn339_0) (.int .i64 ((Qb ((Qa l0 x5_1).f5) x6_2).f0))).trans hx339_1;replace hx339_2:=(cell_far (p:=⟨gb338,0,none⟩) (by first|(rw [add_block];exact hn339_0)|(show (Addr.add _ _).block≠_;rw [add_block];exact hn339_0)|exact hn339_0) (.int .i64 ((Qb ((Qa l0 x5_1).f5) x6_2).f0))).trans hx339_2;replace hx339_3:=(cell_far (p:=⟨gb338,0,none⟩) (by first|(rw [add_block];exact hn339_0)|(show (Addr.add _ _).block≠_;rw [add_block];exact hn339_0)|exact hn339_0) (.int .i64 ((Qb ((Qa l0 x5_1).f5) x6_2).f0))).trans hx339_3;replace hx339_4:=(cell_far (p:=⟨gb338,0,none⟩) (by first|(rw [add_block];exact hn339_0)|(show (Addr.add _ _).block≠_;rw [add_block];exact hn339_0)|exact hn339_0) (.int .i64 ((Qb ((Qa l0 x5_1).f5) x6_2).f0))).trans hx339_4;replace hx339_5:=(cell_far (p:=⟨gb338,0,none⟩) (by first|(rw [add_block];exact hn339_0)|(show (Addr.add _ _).block≠_;rw [add_block];exact hn339_0)|exact hn339_0) (.int .i64 ((Qb ((Qa l0 x5_1).f5) x6_2).f0))).trans hx339_5;replace hx339_0:=(cell_far (p:=⟨gb338,1,none⟩) (by first|(rw [add_block];exact hn339_1)|(show (Addr.add _ _).block≠_;rw [add_block];exact hn339_1)|exact hn339_1) (.int .i64 ((Qb ((Qa l0 x5_1).f5) x6_2).f1))).trans hx339_0;replace hx339_1:=(cell_far (p:=⟨gb338,1,none⟩) (by first|(rw [add_block];exact hn339_1)|(show (Addr.add _ _).block≠_;rw [add_block];exact hn339_1)|exact hn339_1) (.int .i64 ((Qb ((Qa l0 x5_1).f5) x6_2).f1))).trans hx339_1;replace hx339_2:=(cell_far (p:=⟨gb338,1,none⟩) (by first|(rw [add_block];exact hn339_1)|(show (Addr.add _ _).block≠_;rw [add_block];exact hn339_1)|exact hn339_1) (.int .i64 ((Qb ((Qa l0 x5_1).f5) x6_2).f1))).trans hx339_2;replace hx339_3:=(cell_far (p:=⟨gb338,1,none⟩) (by first|(rw [add_block];exact hn339_1)|(show (Addr.add _ _).block≠_;rw [add_block];exact hn339_1)|exact hn339_1) (.int .i64 ((Qb ((Qa l0 x5_1).f5) x6_2).f1))).trans hx339_3;replace hx339_4:=(cell_far (p:=⟨gb338,1,none⟩) (by first|(rw [add_block];exact hn339_1)|(show (Addr.add _ _).block≠_;rw [add_block];exact hn339_1)|exact hn339_1) (.int .i64 ((Qb ((Qa l0 x5_1).f5) x6_2).f1))).trans hx339_4;replace hx339_5:=(cell_far (p:=⟨gb338,1,none⟩) (by first|(rw [add_block];exact hn339_1)|(show (Addr.add _ _).block≠_;rw [add_block];exact hn339_1)|exact hn339_1) (.int .i64 ((Qb ((Qa l0 x5_1).f5) x6_2).f1))).trans hx339_5;replace hx339_0:=(cell_far (p:=⟨gb338,2,none⟩) (by first|(rw [add_block];exact hn339_2)|(show (Addr.add _ _).block≠_;rw [add_block];exact hn339_2)|exact hn339_2) (.bool ((Qb ((Qa l0 x5_1).f5) x6_2).f2))).trans hx339_0;replace hx339_1:=(cell_far (p:=⟨gb338,2,none⟩) (by first|(rw [add_block];exact hn339_2)|(show (Addr.add _ _).block≠_;rw [add_block];exact hn339_2)|exact hn339_2) (.bool ((Qb ((Qa l0 x5_1).f5) x6_2).f2))).trans hx339_1;replace hx339_2:=(cell_far (p:=⟨gb338,2,none⟩) (by first|(rw [add_block];exact hn339_2)|(show (Addr.add _ _).block≠_;rw [add_block];exact hn339_2)|exact hn339_2) (.bool ((Qb ((Qa l0 x5_1).f5) x6_2).f2))).trans hx339_2;replace hx339_3:=(cell_far (p:=⟨gb338,2,none⟩) (by first|(rw [add_block];exact hn339_2)|(show (Addr.add _ _).block≠_;rw [add_block];exact hn339_2)|exact hn339_2) (.bool ((Qb ((Qa l0 x5_1).f5) x6_2).f2))).trans hx339_3;replace hx339_4:=(cell_far (p:=⟨gb338,2,none⟩) (by first|(rw [add_block];exact hn339_2)|(show (Addr.add _ _).block≠_;rw [add_block];exact hn339_2)|exact hn339_2) (.bool ((Qb ((Qa l0 x5_1).f5) x6_2).f2))).trans hx339_4;replace hx339_5:=(cell_far (p:=⟨gb338,2,none⟩) (by first|(rw [add_block];exact hn339_2)|(show (Addr.add _ _).block≠_;rw [add_block];exact hn339_2)|exact hn339_2) (.bool ((Qb ((Qa l0 x5_1).f5) x6_2).f2))).trans hx339_5;replace hx339_0:=(cell_far (p:=⟨gb338,3,none⟩) (by first|(rw [add_block];exact hn339_3)|(show (Addr.add _ _).block≠_;rw [add_block];exact hn339_3)|exact hn339_3) (.slice A337_3 ((Qb ((Qa l0 x5_1).f5) x6_2).f3).length c337_3)).trans hx339_0;replace hx339_1:=(cell_far (p:=⟨gb338,3,none⟩) (by first|(rw [add_block];exact hn339_3)|(show (Addr.add _ _).block≠_;rw [add_block];exact hn339_3)|exact hn339_3) (.slice A337_3 ((Qb ((Qa l0 x5_1).f5) x6_2).f3).length c337_3)).trans hx339_1;replace hx339_2:=(cell_far (p:=⟨gb338,3,none⟩) (by first|(rw [add_block];exact hn339_3)|(show (Addr.add _ _).block≠_;rw [add_block];exact hn339_3)|exact hn339_3) (.slice A337_3 ((Qb ((Qa l0 x5_1).f5) x6_2).f3).length c337_3)).trans hx339_2;replace hx339_3:=(cell_far (p:=⟨gb338,3,none⟩) (by first|(rw [add_block];exact hn339_3)|(show (Addr.add _ _).block≠_;rw [add_block];exact hn339_3)|exact hn339_3) (.slice A337_3 ((Qb ((Qa l0 x5_1).f5) x6_2).f3).length c337_3)).trans hx339_3;replace hx339_4:=(cell_far (p:=⟨gb338,3,none⟩) (by first|(rw [add_block];exact hn339_3)|(show (Addr.add _ _).block≠_;rw [add_block];exact hn339_3)|exact hn339_3) (.slice A337_3 ((Qb ((Qa l0 x5_1).f5) x6_2).f3).length c337_3)).trans hx339_4;replace hx339_5:=(cell_far (p:=⟨gb338,3,none⟩) (by first|(rw [add_block];exact hn339_3)|(show (Addr.add _ _).block≠_;rw [add_block];exact hn339_3)|exact hn339_3) (.slice A337_3 ((Qb ((Qa l0 x5_1).f5) x6_2).f3).length c337_3)).trans hx339_5;replace hx339_0:=(cell_far (p:=⟨gb338,4,none⟩) (by first|(rw [add_block];exact hn339_4)|(show (Addr.add _ _).block≠_;rw [add_block];exact hn339_4)|exact hn339_4) (.bool ((Qb ((Qa l0 x5_1).f5) x6_2).f4))).trans hx339_0;replace hx339_1:=(cell_far (p:=⟨gb338,4,none⟩) (by first|(rw [add_block];exact hn339_4)|(show (Addr.add _ _).block≠_;rw [add_block];exact hn339_4)|exact hn339_4) (.bool ((Qb ((Qa l0 x5_1).f5) x6_2).f4))).trans hx339_1;replace hx339_2:=(cell_far (p:=⟨gb338,4,none⟩) (by first|(rw [add_block];exact hn339_4)|(show (Addr.add _ _).block≠_;rw [add_block];exact hn339_4)|exact hn339_4) (.bool ((Qb ((Qa l0 x5_1).f5) x6_2).f4))).trans hx339_2;replace hx339_3:=(cell_far (p:=⟨gb338,4,none⟩) (by first|(rw [add_block];exact hn339_4)|(show (Addr.add _ _).block≠_;rw [add_block];exact hn339_4)|exact hn339_4) (.bool ((Qb ((Qa l0 x5_1).f5) x6_2).f4))).trans hx339_3;replace hx339_4:=(cell_far (p:=⟨gb338,4,none⟩) (by first|(rw [add_block];exact hn339_4)|(show (Addr.add _ _).block≠_;rw [add_block];exact hn339_4)|exact hn339_4) (.bool ((Qb ((Qa l0 x5_1).f5) x6_2).f4))).trans hx339_4;replace hx339_5:=(cell_far (p:=⟨gb338,4,none⟩) (by first|(rw [add_block];exact hn339_4)|(show (Addr.add _ _).block≠_;rw [add_block];exact hn339_4)|exact hn339_4) (.bool ((Qb ((Qa l0 x5_1).f5) x6_2).f4))).trans hx339_5;replace hx339_0:=(cell_far (p:=⟨gb338,5,none⟩) (by first|(rw [add_block];exact hn339_5)|(show (Addr.add _ _).block≠_;rw [add_block];exact hn339_5)|exact hn339_5) (.slice A337_5 ((Qb ((Qa l0 x5_1).f5) x6_2).f5).length c337_5)).trans hx339_0;replace hx339_1:=(cell_far (p:=⟨gb338,5,none⟩) (by first|(rw [add_block];exact hn339_5)|(show (Addr.add _ _).block≠_;rw [add_block];exact hn339_5)|exact hn339_5) (.slice A337_5 ((Qb ((Qa l0 x5_1).f5) x6_2).f5).length c337_5)).trans hx339_1;replace hx339_2:=(cell_far (p:=⟨gb338,5,none⟩) (by first|(rw [add_block];exact hn339_5)|(show (Addr.add _ _).block≠_;rw [add_block];exact hn339_5)|exact hn339_5) (.slice A337_5 ((Qb ((Qa l0 x5_1).f5) x6_2).f5).length c337_5)).trans hx339_2;replace hx339_3:=(cell_far (p:=⟨gb338,5,none⟩) (by first|(rw [add_block];exact hn339_5)|(show (Addr.add _ _).block≠_;rw [add_block];exact hn339_5)|exact hn339_5) (.slice A337_5 ((Qb ((Qa l0 x5_1).f5) x6_2).f5).length c337_5)).trans hx339_3;replace hx339_4:=(cell_far (p:=⟨gb338,5,none⟩) (by first|(rw [add_block];exact hn339_5)|(show (Addr.add _ _).block≠_;rw [add_block];exact hn339_5)|exact hn339_5) (.slice A337_5 ((Qb ((Qa l0 x5_1).f5) x6_2).f5).length c337_5)).trans hx339_4;replace hx339_5:=(cell_far (p:=⟨gb338,5,none⟩) (by first|(rw [add_block];exact hn339_5)|(show (Addr.add _ _).block≠_;rw [add_block];exact hn339_5)|exact hn339_5) (.slice A337_5 ((Qb ((Qa l0 x5_1).f5) x6_2).f5).length c337_5)).trans hx339_5;clear hn339_0 hn339_1 hn339_2 hn339_3 hn339_4 hn339_5;replace p339:=eq_true p339;replace q339:=eq_true q339));go_roundg k2
           case measure=>have:=HK1.out;have:=HK2.out;omega
           case rel=>exact ⟨(wrap64 (x6_2+1)),(by first|rfl|(simp;done)|(simp [*];done)),H',⟨by have:=HK1.out;have:=HK2.out;omega⟩,⟨by (with_reducible repeat (first|apply zzf|apply zzg|apply zze));refine zzj ?_ NB334_338.out _;(with_reducible repeat (first|apply zzf|apply zzg|apply zze));refine zzj ?_ NB334_338.out _;(with_reducible repeat (first|apply zzf|apply zzg|apply zze));refine zzj ?_ NB334_338.out _;(with_reducible repeat (first|apply zzf|apply zzg|apply zze));refine zzj ?_ NB334_338.out _;(with_reducible repeat (first|apply zzf|apply zzg|apply zze));refine zzj ?_ NB334_338.out _;(with_reducible repeat (first|apply zzf|apply zzg|apply zze));refine zzj ?_ NB334_338.out _;(with_reducible repeat (first|apply zzf|apply zzg|apply zze));exact BK334.out⟩,⟨by repeat (first|(with_reducible first|exact HB.out|apply zza|apply zzb|apply zzc|refine zzd ?_ GE334.out|refine zzd ?_ GE338.out)|exact HB.out)⟩⟩
          ·
           replace c10:=Bool.eq_false_iff.mpr c10;subst c10;have H1:(if (Qb ((Qa l0 x5_1).f5) x6_2).f2=true then (if ((Qb ((Qa l0 x5_1).f5) x6_2).f0) > a1_0 then ((Q6.f k2 ((Qb ((Qa l0 x5_1).f5) x6_2).f3) l1_3).bind fun t340=>(if t340=true then (some true) else (Qk.l1 k2 l0 x5_1 (wrap64 (x6_2+1)) a1_0 a1_1 a1_2 l1_3 a1_4 l1_5))) else (Qk.l1 k2 l0 x5_1 (wrap64 (x6_2+1)) a1_0 a1_1 a1_2 l1_3 a1_4 l1_5)) else (Qk.l1 k2 l0 x5_1 (wrap64 (x6_2+1)) a1_0 a1_1 a1_2 l1_3 a1_4 l1_5))=some r:=by rw [if_neg (show ¬ (false=true) by decide)] at H;exact H
           clear H;have H:=H1;clear H1;obtain ⟨bq14,hbq14⟩:∃ b_:Bool,b_=((Qb ((Qa l0 x5_1).f5) x6_2).f2):=⟨_,rfl⟩;replace H:(if bq14=true then (if ((Qb ((Qa l0 x5_1).f5) x6_2).f0) > a1_0 then ((Q6.f k2 ((Qb ((Qa l0 x5_1).f5) x6_2).f3) l1_3).bind fun t340=>(if t340=true then (some true) else (Qk.l1 k2 l0 x5_1 (wrap64 (x6_2+1)) a1_0 a1_1 a1_2 l1_3 a1_4 l1_5))) else (Qk.l1 k2 l0 x5_1 (wrap64 (x6_2+1)) a1_0 a1_1 a1_2 l1_3 a1_4 l1_5)) else (Qk.l1 k2 l0 x5_1 (wrap64 (x6_2+1)) a1_0 a1_1 a1_2 l1_3 a1_4 l1_5))=some r:=by rw [← hbq14] at H;exact H
           have Nbq14:=zzm hbq14;clear hbq14;by_cases c15:bq14=true
           ·
            subst c15;have H1:(if ((Qb ((Qa l0 x5_1).f5) x6_2).f0) > a1_0 then ((Q6.f k2 ((Qb ((Qa l0 x5_1).f5) x6_2).f3) l1_3).bind fun t340=>(if t340=true then (some true) else (Qk.l1 k2 l0 x5_1 (wrap64 (x6_2+1)) a1_0 a1_1 a1_2 l1_3 a1_4 l1_5))) else (Qk.l1 k2 l0 x5_1 (wrap64 (x6_2+1)) a1_0 a1_1 a1_2 l1_3 a1_4 l1_5))=some r:=by rw [if_pos rfl] at H;exact H
            clear H;have H:=H1;clear H1;by_cases c16:((Qb ((Qa l0 x5_1).f5) x6_2).f0) > a1_0
            ·
             rw [if_pos c16] at H;have c16b0:decide (a1_0 < ((Qb ((Qa l0 x5_1).f5) x6_2).f0))=true:=decide_eq_true c16;clear c16;replace H:=Option.bind_eq_some_iff.mp H;obtain ⟨t340,A170,H⟩:=H;replace H:(if t340=true then (some true) else (Qk.l1 k2 l0 x5_1 (wrap64 (x6_2+1)) a1_0 a1_1 a1_2 l1_3 a1_4 l1_5))=some r:=H;have A17:=zzm A170;clear A170;by_cases c18:t340=true
             ·
              subst c18;have H1:(some true)=some r:=by rw [if_pos rfl] at H;exact H
              clear H;have H:=H1;clear H1;obtain rfl:=Option.some.inj H;have p335 : 0≤(x5_1:Int):=zzt;have q335:x5_1 < (l0.length:Int):=zzt;obtain ⟨ad335,A335_5,c335_5,e335,hx335_0,hx335_1,hx335_2,hx335_3,hx335_4,hx335_5,hl335_5,hi335_5⟩:=Qw HR0.out x5_1 p335 q335
              (try rw [← Nbq9.out] at hx335_0)
              (try rw [← Nbq14.out] at hx335_0)
              (try rw [← Nbq9.out] at hx335_1)
              (try rw [← Nbq14.out] at hx335_1);cases e335;replace hx335_0:=zzx HB.out hx335_0;replace hx335_1:=zzx HB.out hx335_1;replace hx335_2:=zzx HB.out hx335_2;replace hx335_3:=zzx HB.out hx335_3;replace hx335_4:=zzx HB.out hx335_4;replace hx335_5:=zzx HB.out hx335_5;have HR335_5:=zzm hi335_5;have HC335_5:=zzm hl335_5;clear hi335_5 hl335_5;replace p335:=eq_true p335;replace q335:=eq_true q335;have p336 : 0≤(x5_1:Int):=zzt;have q336:x5_1 < (l0.length:Int):=zzt;obtain ⟨ad336,A336_5,c336_5,e336,hx336_0,hx336_1,hx336_2,hx336_3,hx336_4,hx336_5,hl336_5,hi336_5⟩:=Qw HR0.out x5_1 p336 q336
              (try rw [← Nbq9.out] at hx336_0)
              (try rw [← Nbq14.out] at hx336_0)
              (try rw [← Nbq9.out] at hx336_1)
              (try rw [← Nbq14.out] at hx336_1);obtain rfl:ad335=ad336:=(by injection e336);replace hx336_0:=zzx HB.out hx336_0;replace hx336_1:=zzx HB.out hx336_1;replace hx336_2:=zzx HB.out hx336_2;replace hx336_3:=zzx HB.out hx336_3;replace hx336_4:=zzx HB.out hx336_4;replace hx336_5:=zzx HB.out hx336_5;have HR336_5:=zzm hi336_5;have HC336_5:=zzm hl336_5;clear hi336_5 hl336_5;replace p336:=eq_true p336;replace q336:=eq_true q336;have ea_:=Option.some.inj (hx335_5.symm.trans hx336_5);injection ea_ with ea_ en_ ec_;subst ea_;subst ec_;clear en_;have p337 : 0≤(x6_2:Int):=zzt;have q337:x6_2 < (((Qa l0 x5_1).f5).length:Int):=zzt;obtain ⟨ad337,A337_3,c337_3,A337_5,c337_5,e337,hx337_0,hx337_1,hx337_2,hx337_3,hx337_4,hx337_5,hl337_3,hi337_3,hl337_5,hi337_5⟩:=Qy HR336_5.out x6_2 p337 q337
              (try rw [← Nbq9.out] at hx337_2)
              (try rw [← Nbq14.out] at hx337_2)
              (try rw [← Nbq9.out] at hx337_4)
              (try rw [← Nbq14.out] at hx337_4);cases e337;replace hx337_0:=zzx HB.out hx337_0;replace hx337_1:=zzx HB.out hx337_1;replace hx337_2:=zzx HB.out hx337_2;replace hx337_3:=zzx HB.out hx337_3;replace hx337_4:=zzx HB.out hx337_4;replace hx337_5:=zzx HB.out hx337_5;have HR337_3:=zzm hi337_3;have HC337_3:=zzm hl337_3;clear hi337_3 hl337_3;have HR337_5:=zzm hi337_5;have HC337_5:=zzm hl337_5;clear hi337_5 hl337_5;replace p337:=eq_true p337;replace q337:=eq_true q337;go_wp2_with (first|((with_reducible refine gate_dst (N:=7) rfl ?_);refine box_event ?hg (N:=7) ?hd (cs:=#[.int .i64 0,.int .i64 0,.bool false,.slice none 0 0,.bool false,.slice none 0 0]) (t:=30) ?hr ?_;(case hd=>rfl);(case hg=>rfl);(case hr=>first|(go_simp;done)|(go_simp;rfl));intro gb338 hg w19 hbox hb;have n0_:=zzm (zzh (g:=gb334) (o:=.cells #[.int .i64 a1_0,.int .i64 a1_1,.bool a1_2,.slice A1_3 l1_3.length c1_3,.bool a1_4,.slice A1_5 l1_5.length c1_5] 30 (0,0)) (zzE BK334.out) hb);have n1_:=zzm (zzp zzh2 hb);have n2_:=zzm (hbox);have n3_:=zzm ((by rw [hg];exact (zzo zzh2):w.heap.size≤gb338));have n4_:=zzm ((by rw [hg];exact (zzo zzh2):w.heap.size≤gb338));have n5_:=zzm ((by rw [hg];exact Nat.ne_of_lt (blk_lt (g:=gb334) (o:=.cells #[.int .i64 a1_0,.int .i64 a1_1,.bool a1_2,.slice A1_3 l1_3.length c1_3,.bool a1_4,.slice A1_5 l1_5.length c1_5] 30 (0,0)) (zzE BK334.out)):gb334≠gb338));have n6_:=zzm ((by rw [hg];exact Nat.ne_of_gt (blk_lt (g:=gb334) (o:=.cells #[.int .i64 a1_0,.int .i64 a1_1,.bool a1_2,.slice A1_3 l1_3.length c1_3,.bool a1_4,.slice A1_5 l1_5.length c1_5] 30 (0,0)) (zzE BK334.out)):gb338≠gb334));clear BK334 HB;have BK334:=n0_;have HB:=n1_;have BK338:=n2_;have GW338:=n3_;have GE338:=n4_;have NB334_338:=n5_;have NB338_334:=n6_;clear n0_ n1_ n2_ n3_ n4_ n5_ n6_ hb hbox hg;have hnb20:=NB338_334.out;have hnc20:=NB334_338.out;obtain ⟨hcz21_0,hcz21_1,hcz21_2,hcz21_3,hcz21_4,hcz21_5,hfz21_0,hfz21_1,hfz21_2,hfz21_3,hfz21_4,hfz21_5⟩:=zzc6 BK338.out;have p339 : 0≤(x5_1:Int):=zzt;have q339:x5_1 < (l0.length:Int):=zzt;obtain ⟨ad339,A339_5,c339_5,e339,hx339_0,hx339_1,hx339_2,hx339_3,hx339_4,hx339_5,hl339_5,hi339_5⟩:=Qw HR0.out x5_1 p339 q339;(try rw [← Nbq9.out] at hx339_0);(try rw [← Nbq14.out] at hx339_0);(try rw [← Nbq9.out] at hx339_1);(try rw [← Nbq14.out] at hx339_1);obtain rfl:ad335=ad339:=(by injection e339);have hn339_0:ad335.block≠gb338:=Nat.ne_of_lt (Nat.lt_of_lt_of_le (by have:=zzn _ _ hx339_0;first|rwa [add_block] at this|exact this) GW338.out);have hn339_1:ad335.block≠gb338:=Nat.ne_of_lt (Nat.lt_of_lt_of_le (by have:=zzn _ _ hx339_0;first|rwa [add_block] at this|exact this) GW338.out);have hn339_2:ad335.block≠gb338:=Nat.ne_of_lt (Nat.lt_of_lt_of_le (by have:=zzn _ _ hx339_0;first|rwa [add_block] at this|exact this) GW338.out);have hn339_3:ad335.block≠gb338:=Nat.ne_of_lt (Nat.lt_of_lt_of_le (by have:=zzn _ _ hx339_0;first|rwa [add_block] at this|exact this) GW338.out);have hn339_4:ad335.block≠gb338:=Nat.ne_of_lt (Nat.lt_of_lt_of_le (by have:=zzn _ _ hx339_0;first|rwa [add_block] at this|exact this) GW338.out);have hn339_5:ad335.block≠gb338:=Nat.ne_of_lt (Nat.lt_of_lt_of_le (by have:=zzn _ _ hx339_0;first|rwa [add_block] at this|exact this) GW338.out);replace hx339_0:=zzx HB.out hx339_0;replace hx339_1:=zzx HB.out hx339_1;replace hx339_2:=zzx HB.out hx339_2;replace hx339_3:=zzx HB.out hx339_3;replace hx339_4:=zzx HB.out hx339_4;replace hx339_5:=zzx HB.out hx339_5;have HR339_5:=zzm hi339_5;have HC339_5:=zzm hl339_5;clear hi339_5 hl339_5;replace hx339_0:=(cell_far (p:=⟨gb338,0,none⟩) (by first|(rw [add_block];exact hn339_0)|(show (Addr.add _ _).block≠_;rw [add_block];exact hn339_0)|exact hn339_0) (.int .i64 ((Qb ((Qa l0 x5_1).f5) x6_2).f0))).trans hx339_0;replace hx339_1:=(cell_far (p:=⟨gb338,0,none⟩) (by first|(rw [add_block];exact hn339_0)|(show (Addr.add _ _).block≠_;rw [add_block];exact hn339_0)|exact hn339_0) (.int .i64 ((Qb ((Qa l0 x5_1).f5) x6_2).f0))).trans hx339_1;replace hx339_2:=(cell_far (p:=⟨gb338,0,none⟩) (by first|(rw [add_block];exact hn339_0)|(show (Addr.add _ _).block≠_;rw [add_block];exact hn339_0)|exact hn339_0) (.int .i64 ((Qb ((Qa l0 x5_1).f5) x6_2).f0))).trans hx339_2;replace hx339_3:=(cell_far (p:=⟨gb338,0,none⟩) (by first|(rw [add_block];exact hn339_0)|(show (Addr.add _ _).block≠_;rw [add_block];exact hn339_0)|exact hn339_0) (.int .i64 ((Qb ((Qa l0 x5_1).f5) x6_2).f0))).trans hx339_3;replace hx339_4:=(cell_far (p:=⟨gb338,0,none⟩) (by first|(rw [add_block];exact hn339_0)|(show (Addr.add _ _).block≠_;rw [add_block];exact hn339_0)|exact hn339_0) (.int .i64 ((Qb ((Qa l0 x5_1).f5) x6_2).f0))).trans hx339_4;replace hx339_5:=(cell_far (p:=⟨gb338,0,none⟩) (by first|(rw [add_block];exact hn339_0)|(show (Addr.add _ _).block≠_;rw [add_block];exact hn339_0)|exact hn339_0) (.int .i64 ((Qb ((Qa l0 x5_1).f5) x6_2).f0))).trans hx339_5;replace hx339_0:=(cell_far (p:=⟨gb338,1,none⟩) (by first|(rw [add_block];exact hn339_1)|(show (Addr.add _ _).block≠_;rw [add_block];exact hn339_1)|exact hn339_1) (.int .i64 ((Qb ((Qa l0 x5_1).f5) x6_2).f1))).trans hx339_0;replace hx339_1:=(cell_far (p:=⟨gb338,1,none⟩) (by first|(rw [add_block];exact hn339_1)|(show (Addr.add _ _).block≠_;rw [add_block];exact hn339_1)|exact hn339_1) (.int .i64 ((Qb ((Qa l0 x5_1).f5) x6_2).f1))).trans hx339_1;replace hx339_2:=(cell_far (p:=⟨gb338,1,none⟩) (by first|(rw [add_block];exact hn339_1)|(show (Addr.add _ _).block≠_;rw [add_block];exact hn339_1)|exact hn339_1) (.int .i64 ((Qb ((Qa l0 x5_1).f5) x6_2).f1))).trans hx339_2;replace hx339_3:=(cell_far (p:=⟨gb338,1,none⟩) (by first|(rw [add_block];exact hn339_1)|(show (Addr.add _ _).block≠_;rw [add_block];exact hn339_1)|exact hn339_1) (.int .i64 ((Qb ((Qa l0 x5_1).f5) x6_2).f1))).trans hx339_3;replace hx339_4:=(cell_far (p:=⟨gb338,1,none⟩) (by first|(rw [add_block];exact hn339_1)|(show (Addr.add _ _).block≠_;rw [add_block];exact hn339_1)|exact hn339_1) (.int .i64 ((Qb ((Qa l0 x5_1).f5) x6_2).f1))).trans hx339_4;replace hx339_5:=(cell_far (p:=⟨gb338,1,none⟩) (by first|(rw [add_block];exact hn339_1)|(show (Addr.add _ _).block≠_;rw [add_block];exact hn339_1)|exact hn339_1) (.int .i64 ((Qb ((Qa l0 x5_1).f5) x6_2).f1))).trans hx339_5;replace hx339_0:=(cell_far (p:=⟨gb338,2,none⟩) (by first|(rw [add_block];exact hn339_2)|(show (Addr.add _ _).block≠_;rw [add_block];exact hn339_2)|exact hn339_2) (.bool true)).trans hx339_0;replace hx339_1:=(cell_far (p:=⟨gb338,2,none⟩) (by first|(rw [add_block];exact hn339_2)|(show (Addr.add _ _).block≠_;rw [add_block];exact hn339_2)|exact hn339_2) (.bool true)).trans hx339_1;replace hx339_2:=(cell_far (p:=⟨gb338,2,none⟩) (by first|(rw [add_block];exact hn339_2)|(show (Addr.add _ _).block≠_;rw [add_block];exact hn339_2)|exact hn339_2) (.bool true)).trans hx339_2;replace hx339_3:=(cell_far (p:=⟨gb338,2,none⟩) (by first|(rw [add_block];exact hn339_2)|(show (Addr.add _ _).block≠_;rw [add_block];exact hn339_2)|exact hn339_2) (.bool true)).trans hx339_3;replace hx339_4:=(cell_far (p:=⟨gb338,2,none⟩) (by first|(rw [add_block];exact hn339_2)|(show (Addr.add _ _).block≠_;rw [add_block];exact hn339_2)|exact hn339_2) (.bool true)).trans hx339_4;replace hx339_5:=(cell_far (p:=⟨gb338,2,none⟩) (by first|(rw [add_block];exact hn339_2)|(show (Addr.add _ _).block≠_;rw [add_block];exact hn339_2)|exact hn339_2) (.bool true)).trans hx339_5;replace hx339_0:=(cell_far (p:=⟨gb338,3,none⟩) (by first|(rw [add_block];exact hn339_3)|(show (Addr.add _ _).block≠_;rw [add_block];exact hn339_3)|exact hn339_3) (.slice A337_3 ((Qb ((Qa l0 x5_1).f5) x6_2).f3).length c337_3)).trans hx339_0;replace hx339_1:=(cell_far (p:=⟨gb338,3,none⟩) (by first|(rw [add_block];exact hn339_3)|(show (Addr.add _ _).block≠_;rw [add_block];exact hn339_3)|exact hn339_3) (.slice A337_3 ((Qb ((Qa l0 x5_1).f5) x6_2).f3).length c337_3)).trans hx339_1;replace hx339_2:=(cell_far (p:=⟨gb338,3,none⟩) (by first|(rw [add_block];exact hn339_3)|(show (Addr.add _ _).block≠_;rw [add_block];exact hn339_3)|exact hn339_3) (.slice A337_3 ((Qb ((Qa l0 x5_1).f5) x6_2).f3).length c337_3)).trans hx339_2;replace hx339_3:=(cell_far (p:=⟨gb338,3,none⟩) (by first|(rw [add_block];exact hn339_3)|(show (Addr.add _ _).block≠_;rw [add_block];exact hn339_3)|exact hn339_3) (.slice A337_3 ((Qb ((Qa l0 x5_1).f5) x6_2).f3).length c337_3)).trans hx339_3;replace hx339_4:=(cell_far (p:=⟨gb338,3,none⟩) (by first|(rw [add_block];exact hn339_3)|(show (Addr.add _ _).block≠_;rw [add_block];exact hn339_3)|exact hn339_3) (.slice A337_3 ((Qb ((Qa l0 x5_1).f5) x6_2).f3).length c337_3)).trans hx339_4;replace hx339_5:=(cell_far (p:=⟨gb338,3,none⟩) (by first|(rw [add_block];exact hn339_3)|(show (Addr.add _ _).block≠_;rw [add_block];exact hn339_3)|exact hn339_3) (.slice A337_3 ((Qb ((Qa l0 x5_1).f5) x6_2).f3).length c337_3)).trans hx339_5;replace hx339_0:=(cell_far (p:=⟨gb338,4,none⟩) (by first|(rw [add_block];exact hn339_4)|(show (Addr.add _ _).block≠_;rw [add_block];exact hn339_4)|exact hn339_4) (.bool ((Qb ((Qa l0 x5_1).f5) x6_2).f4))).trans hx339_0;replace hx339_1:=(cell_far (p:=⟨gb338,4,none⟩) (by first|(rw [add_block];exact hn339_4)|(show (Addr.add _ _).block≠_;rw [add_block];exact hn339_4)|exact hn339_4) (.bool ((Qb ((Qa l0 x5_1).f5) x6_2).f4))).trans hx339_1;replace hx339_2:=(cell_far (p:=⟨gb338,4,none⟩) (by first|(rw [add_block];exact hn339_4)|(show (Addr.add _ _).block≠_;rw [add_block];exact hn339_4)|exact hn339_4) (.bool ((Qb ((Qa l0 x5_1).f5) x6_2).f4))).trans hx339_2;replace hx339_3:=(cell_far (p:=⟨gb338,4,none⟩) (by first|(rw [add_block];exact hn339_4)|(show (Addr.add _ _).block≠_;rw [add_block];exact hn339_4)|exact hn339_4) (.bool ((Qb ((Qa l0 x5_1).f5) x6_2).f4))).trans hx339_3;replace hx339_4:=(cell_far (p:=⟨gb338,4,none⟩) (by first|(rw [add_block];exact hn339_4)|(show (Addr.add _ _).block≠_;rw [add_block];exact hn339_4)|exact hn339_4) (.bool ((Qb ((Qa l0 x5_1).f5) x6_2).f4))).trans hx339_4;replace hx339_5:=(cell_far (p:=⟨gb338,4,none⟩) (by first|(rw [add_block];exact hn339_4)|(show (Addr.add _ _).block≠_;rw [add_block];exact hn339_4)|exact hn339_4) (.bool ((Qb ((Qa l0 x5_1).f5) x6_2).f4))).trans hx339_5;replace hx339_0:=(cell_far (p:=⟨gb338,5,none⟩) (by first|(rw [add_block];exact hn339_5)|(show (Addr.add _ _).block≠_;rw [add_block];exact hn339_5)|exact hn339_5) (.slice A337_5 ((Qb ((Qa l0 x5_1).f5) x6_2).f5).length c337_5)).trans hx339_0;replace hx339_1:=(cell_far (p:=⟨gb338,5,none⟩) (by first|(rw [add_block];exact hn339_5)|(show (Addr.add _ _).block≠_;rw [add_block];exact hn339_5)|exact hn339_5) (.slice A337_5 ((Qb ((Qa l0 x5_1).f5) x6_2).f5).length c337_5)).trans hx339_1;replace hx339_2:=(cell_far (p:=⟨gb338,5,none⟩) (by first|(rw [add_block];exact hn339_5)|(show (Addr.add _ _).block≠_;rw [add_block];exact hn339_5)|exact hn339_5) (.slice A337_5 ((Qb ((Qa l0 x5_1).f5) x6_2).f5).length c337_5)).trans hx339_2;replace hx339_3:=(cell_far (p:=⟨gb338,5,none⟩) (by first|(rw [add_block];exact hn339_5)|(show (Addr.add _ _).block≠_;rw [add_block];exact hn339_5)|exact hn339_5) (.slice A337_5 ((Qb ((Qa l0 x5_1).f5) x6_2).f5).length c337_5)).trans hx339_3;replace hx339_4:=(cell_far (p:=⟨gb338,5,none⟩) (by first|(rw [add_block];exact hn339_5)|(show (Addr.add _ _).block≠_;rw [add_block];exact hn339_5)|exact hn339_5) (.slice A337_5 ((Qb ((Qa l0 x5_1).f5) x6_2).f5).length c337_5)).trans hx339_4;replace hx339_5:=(cell_far (p:=⟨gb338,5,none⟩) (by first|(rw [add_block];exact hn339_5)|(show (Addr.add _ _).block≠_;rw [add_block];exact hn339_5)|exact hn339_5) (.slice A337_5 ((Qb ((Qa l0 x5_1).f5) x6_2).f5).length c337_5)).trans hx339_5;clear hn339_0 hn339_1 hn339_2 hn339_3 hn339_4 hn339_5;replace p339:=eq_true p339;replace q339:=eq_true q339;obtain ⟨hcz22_0,hcz22_1,hcz22_2,hcz22_3,hcz22_4,hcz22_5,hfz22_0,hfz22_1,hfz22_2,hfz22_3,hfz22_4,hfz22_5⟩:=zzc6 BK334.out)|(go_at_call 89;(with_reducible refine (Q6.calls k2 _ _ ((Qb ((Qa l0 x5_1).f5) x6_2).f3) _ _ l1_3 true _ ?side1 ?side2 ?side3 ?side4 A17.out).mono ?_);(case side1=>exact Kd.C_below HR337_3.out zzh2);(case side2=>exact HC337_3.out);(case side3=>exact Kd.C_below HR1_3.out zzh2);(case side4=>exact HC1_3.out);rintro e w' ⟨rfl,⟨nd,rfl⟩⟩));go_ret;exact ⟨by first|rfl|(simp [errW_none,errW_some] <;> rfl)|(simp [*,errW_none,errW_some] <;> rfl),by repeat (first|(with_reducible first|exact HB.out|apply zza|apply zzb|apply zzc|refine zzd ?_ GE334.out|refine zzd ?_ GE338.out)|exact HB.out)⟩
             ·
              replace c18:=Bool.eq_false_iff.mpr c18;subst c18;have H1:(Qk.l1 k2 l0 x5_1 (wrap64 (x6_2+1)) a1_0 a1_1 a1_2 l1_3 a1_4 l1_5)=some r:=by rw [if_neg (show ¬ (false=true) by decide)] at H;exact H
              clear H;have H:=H1;clear H1;have H':=zzm H;clear H;have p335 : 0≤(x5_1:Int):=zzt;have q335:x5_1 < (l0.length:Int):=zzt;obtain ⟨ad335,A335_5,c335_5,e335,hx335_0,hx335_1,hx335_2,hx335_3,hx335_4,hx335_5,hl335_5,hi335_5⟩:=Qw HR0.out x5_1 p335 q335
              (try rw [← Nbq9.out] at hx335_0)
              (try rw [← Nbq14.out] at hx335_0)
              (try rw [← Nbq9.out] at hx335_1)
              (try rw [← Nbq14.out] at hx335_1);cases e335;replace hx335_0:=zzx HB.out hx335_0;replace hx335_1:=zzx HB.out hx335_1;replace hx335_2:=zzx HB.out hx335_2;replace hx335_3:=zzx HB.out hx335_3;replace hx335_4:=zzx HB.out hx335_4;replace hx335_5:=zzx HB.out hx335_5;have HR335_5:=zzm hi335_5;have HC335_5:=zzm hl335_5;clear hi335_5 hl335_5;replace p335:=eq_true p335;replace q335:=eq_true q335;have p336 : 0≤(x5_1:Int):=zzt;have q336:x5_1 < (l0.length:Int):=zzt;obtain ⟨ad336,A336_5,c336_5,e336,hx336_0,hx336_1,hx336_2,hx336_3,hx336_4,hx336_5,hl336_5,hi336_5⟩:=Qw HR0.out x5_1 p336 q336
              (try rw [← Nbq9.out] at hx336_0)
              (try rw [← Nbq14.out] at hx336_0)
              (try rw [← Nbq9.out] at hx336_1)
              (try rw [← Nbq14.out] at hx336_1);obtain rfl:ad335=ad336:=(by injection e336);replace hx336_0:=zzx HB.out hx336_0;replace hx336_1:=zzx HB.out hx336_1;replace hx336_2:=zzx HB.out hx336_2;replace hx336_3:=zzx HB.out hx336_3;replace hx336_4:=zzx HB.out hx336_4;replace hx336_5:=zzx HB.out hx336_5;have HR336_5:=zzm hi336_5;have HC336_5:=zzm hl336_5;clear hi336_5 hl336_5;replace p336:=eq_true p336;replace q336:=eq_true q336;have ea_:=Option.some.inj (hx335_5.symm.trans hx336_5);injection ea_ with ea_ en_ ec_;subst ea_;subst ec_;clear en_;have p337 : 0≤(x6_2:Int):=zzt;have q337:x6_2 < (((Qa l0 x5_1).f5).length:Int):=zzt;obtain ⟨ad337,A337_3,c337_3,A337_5,c337_5,e337,hx337_0,hx337_1,hx337_2,hx337_3,hx337_4,hx337_5,hl337_3,hi337_3,hl337_5,hi337_5⟩:=Qy HR336_5.out x6_2 p337 q337
              (try rw [← Nbq9.out] at hx337_2)
              (try rw [← Nbq14.out] at hx337_2)
              (try rw [← Nbq9.out] at hx337_4)
              (try rw [← Nbq14.out] at hx337_4);cases e337;replace hx337_0:=zzx HB.out hx337_0;replace hx337_1:=zzx HB.out hx337_1;replace hx337_2:=zzx HB.out hx337_2;replace hx337_3:=zzx HB.out hx337_3;replace hx337_4:=zzx HB.out hx337_4;replace hx337_5:=zzx HB.out hx337_5;have HR337_3:=zzm hi337_3;have HC337_3:=zzm hl337_3;clear hi337_3 hl337_3;have HR337_5:=zzm hi337_5;have HC337_5:=zzm hl337_5;clear hi337_5 hl337_5;replace p337:=eq_true p337;replace q337:=eq_true q337;go_wp2_with (first|((with_reducible refine gate_dst (N:=7) rfl ?_);refine box_event ?hg (N:=7) ?hd (cs:=#[.int .i64 0,.int .i64 0,.bool false,.slice none 0 0,.bool false,.slice none 0 0]) (t:=30) ?hr ?_;(case hd=>rfl);(case hg=>rfl);(case hr=>first|(go_simp;done)|(go_simp;rfl));intro gb338 hg w23 hbox hb;have n0_:=zzm (zzh (g:=gb334) (o:=.cells #[.int .i64 a1_0,.int .i64 a1_1,.bool a1_2,.slice A1_3 l1_3.length c1_3,.bool a1_4,.slice A1_5 l1_5.length c1_5] 30 (0,0)) (zzE BK334.out) hb);have n1_:=zzm (zzp zzh2 hb);have n2_:=zzm (hbox);have n3_:=zzm ((by rw [hg];exact (zzo zzh2):w.heap.size≤gb338));have n4_:=zzm ((by rw [hg];exact (zzo zzh2):w.heap.size≤gb338));have n5_:=zzm ((by rw [hg];exact Nat.ne_of_lt (blk_lt (g:=gb334) (o:=.cells #[.int .i64 a1_0,.int .i64 a1_1,.bool a1_2,.slice A1_3 l1_3.length c1_3,.bool a1_4,.slice A1_5 l1_5.length c1_5] 30 (0,0)) (zzE BK334.out)):gb334≠gb338));have n6_:=zzm ((by rw [hg];exact Nat.ne_of_gt (blk_lt (g:=gb334) (o:=.cells #[.int .i64 a1_0,.int .i64 a1_1,.bool a1_2,.slice A1_3 l1_3.length c1_3,.bool a1_4,.slice A1_5 l1_5.length c1_5] 30 (0,0)) (zzE BK334.out)):gb338≠gb334));clear BK334 HB;have BK334:=n0_;have HB:=n1_;have BK338:=n2_;have GW338:=n3_;have GE338:=n4_;have NB334_338:=n5_;have NB338_334:=n6_;clear n0_ n1_ n2_ n3_ n4_ n5_ n6_ hb hbox hg;have hnb24:=NB338_334.out;have hnc24:=NB334_338.out;obtain ⟨hcz25_0,hcz25_1,hcz25_2,hcz25_3,hcz25_4,hcz25_5,hfz25_0,hfz25_1,hfz25_2,hfz25_3,hfz25_4,hfz25_5⟩:=zzc6 BK338.out;have p339 : 0≤(x5_1:Int):=zzt;have q339:x5_1 < (l0.length:Int):=zzt;obtain ⟨ad339,A339_5,c339_5,e339,hx339_0,hx339_1,hx339_2,hx339_3,hx339_4,hx339_5,hl339_5,hi339_5⟩:=Qw HR0.out x5_1 p339 q339;(try rw [← Nbq9.out] at hx339_0);(try rw [← Nbq14.out] at hx339_0);(try rw [← Nbq9.out] at hx339_1);(try rw [← Nbq14.out] at hx339_1);obtain rfl:ad335=ad339:=(by injection e339);have hn339_0:ad335.block≠gb338:=Nat.ne_of_lt (Nat.lt_of_lt_of_le (by have:=zzn _ _ hx339_0;first|rwa [add_block] at this|exact this) GW338.out);have hn339_1:ad335.block≠gb338:=Nat.ne_of_lt (Nat.lt_of_lt_of_le (by have:=zzn _ _ hx339_0;first|rwa [add_block] at this|exact this) GW338.out);have hn339_2:ad335.block≠gb338:=Nat.ne_of_lt (Nat.lt_of_lt_of_le (by have:=zzn _ _ hx339_0;first|rwa [add_block] at this|exact this) GW338.out);have hn339_3:ad335.block≠gb338:=Nat.ne_of_lt (Nat.lt_of_lt_of_le (by have:=zzn _ _ hx339_0;first|rwa [add_block] at this|exact this) GW338.out);have hn339_4:ad335.block≠gb338:=Nat.ne_of_lt (Nat.lt_of_lt_of_le (by have:=zzn _ _ hx339_0;first|rwa [add_block] at this|exact this) GW338.out);have hn339_5:ad335.block≠gb338:=Nat.ne_of_lt (Nat.lt_of_lt_of_le (by have:=zzn _ _ hx339_0;first|rwa [add_block] at this|exact this) GW338.out);replace hx339_0:=zzx HB.out hx339_0;replace hx339_1:=zzx HB.out hx339_1;replace hx339_2:=zzx HB.out hx339_2;replace hx339_3:=zzx HB.out hx339_3;replace hx339_4:=zzx HB.out hx339_4;replace hx339_5:=zzx HB.out hx339_5;have HR339_5:=zzm hi339_5;have HC339_5:=zzm hl339_5;clear hi339_5 hl339_5;replace hx339_0:=(cell_far (p:=⟨gb338,0,none⟩) (by first|(rw [add_block];exact hn339_0)|(show (Addr.add _ _).block≠_;rw [add_block];exact hn339_0)|exact hn339_0) (.int .i64 ((Qb ((Qa l0 x5_1).f5) x6_2).f0))).trans hx339_0;replace hx339_1:=(cell_far (p:=⟨gb338,0,none⟩) (by first|(rw [add_block];exact hn339_0)|(show (Addr.add _ _).block≠_;rw [add_block];exact hn339_0)|exact hn339_0) (.int .i64 ((Qb ((Qa l0 x5_1).f5) x6_2).f0))).trans hx339_1;replace hx339_2:=(cell_far (p:=⟨gb338,0,none⟩) (by first|(rw [add_block];exact hn339_0)|(show (Addr.add _ _).block≠_;rw [add_block];exact hn339_0)|exact hn339_0) (.int .i64 ((Qb ((Qa l0 x5_1).f5) x6_2).f0))).trans hx339_2;replace hx339_3:=(cell_far (p:=⟨gb338,0,none⟩) (by first|(rw [add_block];exact hn339_0)|(show (Addr.add _ _).block≠_;rw [add_block];exact hn339_0)|exact hn339_0) (.int .i64 ((Qb ((Qa l0 x5_1).f5) x6_2).f0))).trans hx339_3;replace hx339_4:=(cell_far (p:=⟨gb338,0,none⟩) (by first|(rw [add_block];exact hn339_0)|(show (Addr.add _ _).block≠_;rw [add_block];exact hn339_0)|exact hn339_0) (.int .i64 ((Qb ((Qa l0 x5_1).f5) x6_2).f0))).trans hx339_4;replace hx339_5:=(cell_far (p:=⟨gb338,0,none⟩) (by first|(rw [add_block];exact hn339_0)|(show (Addr.add _ _).block≠_;rw [add_block];exact hn339_0)|exact hn339_0) (.int .i64 ((Qb ((Qa l0 x5_1).f5) x6_2).f0))).trans hx339_5;replace hx339_0:=(cell_far (p:=⟨gb338,1,none⟩) (by first|(rw [add_block];exact hn339_1)|(show (Addr.add _ _).block≠_;rw [add_block];exact hn339_1)|exact hn339_1) (.int .i64 ((Qb ((Qa l0 x5_1).f5) x6_2).f1))).trans hx339_0;replace hx339_1:=(cell_far (p:=⟨gb338,1,none⟩) (by first|(rw [add_block];exact hn339_1)|(show (Addr.add _ _).block≠_;rw [add_block];exact hn339_1)|exact hn339_1) (.int .i64 ((Qb ((Qa l0 x5_1).f5) x6_2).f1))).trans hx339_1;replace hx339_2:=(cell_far (p:=⟨gb338,1,none⟩) (by first|(rw [add_block];exact hn339_1)|(show (Addr.add _ _).block≠_;rw [add_block];exact hn339_1)|exact hn339_1) (.int .i64 ((Qb ((Qa l0 x5_1).f5) x6_2).f1))).trans hx339_2;replace hx339_3:=(cell_far (p:=⟨gb338,1,none⟩) (by first|(rw [add_block];exact hn339_1)|(show (Addr.add _ _).block≠_;rw [add_block];exact hn339_1)|exact hn339_1) (.int .i64 ((Qb ((Qa l0 x5_1).f5) x6_2).f1))).trans hx339_3;replace hx339_4:=(cell_far (p:=⟨gb338,1,none⟩) (by first|(rw [add_block];exact hn339_1)|(show (Addr.add _ _).block≠_;rw [add_block];exact hn339_1)|exact hn339_1) (.int .i64 ((Qb ((Qa l0 x5_1).f5) x6_2).f1))).trans hx339_4;replace hx339_5:=(cell_far (p:=⟨gb338,1,none⟩) (by first|(rw [add_block];exact hn339_1)|(show (Addr.add _ _).block≠_;rw [add_block];exact hn339_1)|exact hn339_1) (.int .i64 ((Qb ((Qa l0 x5_1).f5) x6_2).f1))).trans hx339_5;replace hx339_0:=(cell_far (p:=⟨gb338,2,none⟩) (by first|(rw [add_block];exact hn339_2)|(show (Addr.add _ _).block≠_;rw [add_block];exact hn339_2)|exact hn339_2) (.bool true)).trans hx339_0;replace hx339_1:=(cell_far (p:=⟨gb338,2,none⟩) (by first|(rw [add_block];exact hn339_2)|(show (Addr.add _ _).block≠_;rw [add_block];exact hn339_2)|exact hn339_2) (.bool true)).trans hx339_1;replace hx339_2:=(cell_far (p:=⟨gb338,2,none⟩) (by first|(rw [add_block];exact hn339_2)|(show (Addr.add _ _).block≠_;rw [add_block];exact hn339_2)|exact hn339_2) (.bool true)).trans hx339_2;replace hx339_3:=(cell_far (p:=⟨gb338,2,none⟩) (by first|(rw [add_block];exact hn339_2)|(show (Addr.add _ _).block≠_;rw [add_block];exact hn339_2)|exact hn339_2) (.bool true)).trans hx339_3;replace hx339_4:=(cell_far (p:=⟨gb338,2,none⟩) (by first|(rw [add_block];exact hn339_2)|(show (Addr.add _ _).block≠_;rw [add_block];exact hn339_2)|exact hn339_2) (.bool true)).trans hx339_4;replace hx339_5:=(cell_far (p:=⟨gb338,2,none⟩) (by first|(rw [add_block];exact hn339_2)|(show (Addr.add _ _).block≠_;rw [add_block];exact hn339_2)|exact hn339_2) (.bool true)).trans hx339_5;replace hx339_0:=(cell_far (p:=⟨gb338,3,none⟩) (by first|(rw [add_block];exact hn339_3)|(show (Addr.add _ _).block≠_;rw [add_block];exact hn339_3)|exact hn339_3) (.slice A337_3 ((Qb ((Qa l0 x5_1).f5) x6_2).f3).length c337_3)).trans hx339_0;replace hx339_1:=(cell_far (p:=⟨gb338,3,none⟩) (by first|(rw [add_block];exact hn339_3)|(show (Addr.add _ _).block≠_;rw [add_block];exact hn339_3)|exact hn339_3) (.slice A337_3 ((Qb ((Qa l0 x5_1).f5) x6_2).f3).length c337_3)).trans hx339_1;replace hx339_2:=(cell_far (p:=⟨gb338,3,none⟩) (by first|(rw [add_block];exact hn339_3)|(show (Addr.add _ _).block≠_;rw [add_block];exact hn339_3)|exact hn339_3) (.slice A337_3 ((Qb ((Qa l0 x5_1).f5) x6_2).f3).length c337_3)).trans hx339_2;replace hx339_3:=(cell_far (p:=⟨gb338,3,none⟩) (by first|(rw [add_block];exact hn339_3)|(show (Addr.add _ _).block≠_;rw [add_block];exact hn339_3)|exact hn339_3) (.slice A337_3 ((Qb ((Qa l0 x5_1).f5) x6_2).f3).length c337_3)).trans hx339_3;replace hx339_4:=(cell_far (p:=⟨gb338,3,none⟩) (by first|(rw [add_block];exact hn339_3)|(show (Addr.add _ _).block≠_;rw [add_block];exact hn339_3)|exact hn339_3) (.slice A337_3 ((Qb ((Qa l0 x5_1).f5) x6_2).f3).length c337_3)).trans hx339_4;replace hx339_5:=(cell_far (p:=⟨gb338,3,none⟩) (by first|(rw [add_block];exact hn339_3)|(show (Addr.add _ _).block≠_;rw [add_block];exact hn339_3)|exact hn339_3) (.slice A337_3 ((Qb ((Qa l0 x5_1).f5) x6_2).f3).length c337_3)).trans hx339_5;replace hx339_0:=(cell_far (p:=⟨gb338,4,none⟩) (by first|(rw [add_block];exact hn339_4)|(show (Addr.add _ _).block≠_;rw [add_block];exact hn339_4)|exact hn339_4) (.bool ((Qb ((Qa l0 x5_1).f5) x6_2).f4))).trans hx339_0;replace hx339_1:=(cell_far (p:=⟨gb338,4,none⟩) (by first|(rw [add_block];exact hn339_4)|(show (Addr.add _ _).block≠_;rw [add_block];exact hn339_4)|exact hn339_4) (.bool ((Qb ((Qa l0 x5_1).f5) x6_2).f4))).trans hx339_1;replace hx339_2:=(cell_far (p:=⟨gb338,4,none⟩) (by first|(rw [add_block];exact hn339_4)|(show (Addr.add _ _).block≠_;rw [add_block];exact hn339_4)|exact hn339_4) (.bool ((Qb ((Qa l0 x5_1).f5) x6_2).f4))).trans hx339_2;replace hx339_3:=(cell_far (p:=⟨gb338,4,none⟩) (by first|(rw [add_block];exact hn339_4)|(show (Addr.add _ _).block≠_;rw [add_block];exact hn339_4)|exact hn339_4) (.bool ((Qb ((Qa l0 x5_1).f5) x6_2).f4))).trans hx339_3;replace hx339_4:=(cell_far (p:=⟨gb338,4,none⟩) (by first|(rw [add_block];exact hn339_4)|(show (Addr.add _ _).block≠_;rw [add_block];exact hn339_4)|exact hn339_4) (.bool ((Qb ((Qa l0 x5_1).f5) x6_2).f4))).trans hx339_4;replace hx339_5:=(cell_far (p:=⟨gb338,4,none⟩) (by first|(rw [add_block];exact hn339_4)|(show (Addr.add _ _).block≠_;rw [add_block];exact hn339_4)|exact hn339_4) (.bool ((Qb ((Qa l0 x5_1).f5) x6_2).f4))).trans hx339_5;replace hx339_0:=(cell_far (p:=⟨gb338,5,none⟩) (by first|(rw [add_block];exact hn339_5)|(show (Addr.add _ _).block≠_;rw [add_block];exact hn339_5)|exact hn339_5) (.slice A337_5 ((Qb ((Qa l0 x5_1).f5) x6_2).f5).length c337_5)).trans hx339_0;replace hx339_1:=(cell_far (p:=⟨gb338,5,none⟩) (by first|(rw [add_block];exact hn339_5)|(show (Addr.add _ _).block≠_;rw [add_block];exact hn339_5)|exact hn339_5) (.slice A337_5 ((Qb ((Qa l0 x5_1).f5) x6_2).f5).length c337_5)).trans hx339_1;replace hx339_2:=(cell_far (p:=⟨gb338,5,none⟩) (by first|(rw [add_block];exact hn339_5)|(show (Addr.add _ _).block≠_;rw [add_block];exact hn339_5)|exact hn339_5) (.slice A337_5 ((Qb ((Qa l0 x5_1).f5) x6_2).f5).length c337_5)).trans hx339_2;replace hx339_3:=(cell_far (p:=⟨gb338,5,none⟩) (by first|(rw [add_block];exact hn339_5)|(show (Addr.add _ _).block≠_;rw [add_block];exact hn339_5)|exact hn339_5) (.slice A337_5 ((Qb ((Qa l0 x5_1).f5) x6_2).f5).length c337_5)).trans hx339_3;replace hx339_4:=(cell_far (p:=⟨gb338,5,none⟩) (by first|(rw [add_block];exact hn339_5)|(show (Addr.add _ _).block≠_;rw [add_block];exact hn339_5)|exact hn339_5) (.slice A337_5 ((Qb ((Qa l0 x5_1).f5) x6_2).f5).length c337_5)).trans hx339_4;replace hx339_5:=(cell_far (p:=⟨gb338,5,none⟩) (by first|(rw [add_block];exact hn339_5)|(show (Addr.add _ _).block≠_;rw [add_block];exact hn339_5)|exact hn339_5) (.slice A337_5 ((Qb ((Qa l0 x5_1).f5) x6_2).f5).length c337_5)).trans hx339_5;clear hn339_0 hn339_1 hn339_2 hn339_3 hn339_4 hn339_5;replace p339:=eq_true p339;replace q339:=eq_true q339;obtain ⟨hcz26_0,hcz26_1,hcz26_2,hcz26_3,hcz26_4,hcz26_5,hfz26_0,hfz26_1,hfz26_2,hfz26_3,hfz26_4,hfz26_5⟩:=zzc6 BK334.out)|(go_at_call 89;(with_reducible refine (Q6.calls k2 _ _ ((Qb ((Qa l0 x5_1).f5) x6_2).f3) _ _ l1_3 false _ ?side1 ?side2 ?side3 ?side4 A17.out).mono ?_);(case side1=>exact Kd.C_below HR337_3.out zzh2);(case side2=>exact HC337_3.out);(case side3=>exact Kd.C_below HR1_3.out zzh2);(case side4=>exact HC1_3.out);rintro e w' ⟨rfl,⟨nd,rfl⟩⟩));go_roundg k2
              case measure=>have:=HK1.out;have:=HK2.out;omega
              case rel=>exact ⟨(wrap64 (x6_2+1)),(by first|rfl|(simp;done)|(simp [*];done)),H',⟨by have:=HK1.out;have:=HK2.out;omega⟩,⟨by (with_reducible repeat (first|apply zzf|apply zzg|apply zze));refine zzj ?_ NB334_338.out _;(with_reducible repeat (first|apply zzf|apply zzg|apply zze));refine zzj ?_ NB334_338.out _;(with_reducible repeat (first|apply zzf|apply zzg|apply zze));refine zzj ?_ NB334_338.out _;(with_reducible repeat (first|apply zzf|apply zzg|apply zze));refine zzj ?_ NB334_338.out _;(with_reducible repeat (first|apply zzf|apply zzg|apply zze));refine zzj ?_ NB334_338.out _;(with_reducible repeat (first|apply zzf|apply zzg|apply zze));refine zzj ?_ NB334_338.out _;(with_reducible repeat (first|apply zzf|apply zzg|apply zze));exact BK334.out⟩,⟨by repeat (first|(with_reducible first|exact HB.out|apply zza|apply zzb|apply zzc|refine zzd ?_ GE334.out|refine zzd ?_ GE338.out)|exact HB.out)⟩⟩
            ·
             rw [if_neg c16] at H;have c16b0:decide (a1_0 < ((Qb ((Qa l0 x5_1).f5) x6_2).f0))=false:=decide_eq_false c16;clear c16;have H':=zzm H;clear H;have p335 : 0≤(x5_1:Int):=zzt;have q335:x5_1 < (l0.length:Int):=zzt;obtain ⟨ad335,A335_5,c335_5,e335,hx335_0,hx335_1,hx335_2,hx335_3,hx335_4,hx335_5,hl335_5,hi335_5⟩:=Qw HR0.out x5_1 p335 q335
             (try rw [← Nbq9.out] at hx335_0)
             (try rw [← Nbq14.out] at hx335_0)
             (try rw [← Nbq9.out] at hx335_1)
             (try rw [← Nbq14.out] at hx335_1);cases e335;replace hx335_0:=zzx HB.out hx335_0;replace hx335_1:=zzx HB.out hx335_1;replace hx335_2:=zzx HB.out hx335_2;replace hx335_3:=zzx HB.out hx335_3;replace hx335_4:=zzx HB.out hx335_4;replace hx335_5:=zzx HB.out hx335_5;have HR335_5:=zzm hi335_5;have HC335_5:=zzm hl335_5;clear hi335_5 hl335_5;replace p335:=eq_true p335;replace q335:=eq_true q335;have p336 : 0≤(x5_1:Int):=zzt;have q336:x5_1 < (l0.length:Int):=zzt;obtain ⟨ad336,A336_5,c336_5,e336,hx336_0,hx336_1,hx336_2,hx336_3,hx336_4,hx336_5,hl336_5,hi336_5⟩:=Qw HR0.out x5_1 p336 q336
             (try rw [← Nbq9.out] at hx336_0)
             (try rw [← Nbq14.out] at hx336_0)
             (try rw [← Nbq9.out] at hx336_1)
             (try rw [← Nbq14.out] at hx336_1);obtain rfl:ad335=ad336:=(by injection e336);replace hx336_0:=zzx HB.out hx336_0;replace hx336_1:=zzx HB.out hx336_1;replace hx336_2:=zzx HB.out hx336_2;replace hx336_3:=zzx HB.out hx336_3;replace hx336_4:=zzx HB.out hx336_4;replace hx336_5:=zzx HB.out hx336_5;have HR336_5:=zzm hi336_5;have HC336_5:=zzm hl336_5;clear hi336_5 hl336_5;replace p336:=eq_true p336;replace q336:=eq_true q336;have ea_:=Option.some.inj (hx335_5.symm.trans hx336_5);injection ea_ with ea_ en_ ec_;subst ea_;subst ec_;clear en_;have p337 : 0≤(x6_2:Int):=zzt;have q337:x6_2 < (((Qa l0 x5_1).f5).length:Int):=zzt;obtain ⟨ad337,A337_3,c337_3,A337_5,c337_5,e337,hx337_0,hx337_1,hx337_2,hx337_3,hx337_4,hx337_5,hl337_3,hi337_3,hl337_5,hi337_5⟩:=Qy HR336_5.out x6_2 p337 q337
             (try rw [← Nbq9.out] at hx337_2)
             (try rw [← Nbq14.out] at hx337_2)
             (try rw [← Nbq9.out] at hx337_4)
             (try rw [← Nbq14.out] at hx337_4);cases e337;replace hx337_0:=zzx HB.out hx337_0;replace hx337_1:=zzx HB.out hx337_1;replace hx337_2:=zzx HB.out hx337_2;replace hx337_3:=zzx HB.out hx337_3;replace hx337_4:=zzx HB.out hx337_4;replace hx337_5:=zzx HB.out hx337_5;have HR337_3:=zzm hi337_3;have HC337_3:=zzm hl337_3;clear hi337_3 hl337_3;have HR337_5:=zzm hi337_5;have HC337_5:=zzm hl337_5;clear hi337_5 hl337_5;replace p337:=eq_true p337;replace q337:=eq_true q337;go_wp2_with (first|((with_reducible refine gate_dst (N:=7) rfl ?_);refine box_event ?hg (N:=7) ?hd (cs:=#[.int .i64 0,.int .i64 0,.bool false,.slice none 0 0,.bool false,.slice none 0 0]) (t:=30) ?hr ?_;(case hd=>rfl);(case hg=>rfl);(case hr=>first|(go_simp;done)|(go_simp;rfl));intro gb338 hg w27 hbox hb;have n0_:=zzm (zzh (g:=gb334) (o:=.cells #[.int .i64 a1_0,.int .i64 a1_1,.bool a1_2,.slice A1_3 l1_3.length c1_3,.bool a1_4,.slice A1_5 l1_5.length c1_5] 30 (0,0)) (zzE BK334.out) hb);have n1_:=zzm (zzp zzh2 hb);have n2_:=zzm (hbox);have n3_:=zzm ((by rw [hg];exact (zzo zzh2):w.heap.size≤gb338));have n4_:=zzm ((by rw [hg];exact (zzo zzh2):w.heap.size≤gb338));have n5_:=zzm ((by rw [hg];exact Nat.ne_of_lt (blk_lt (g:=gb334) (o:=.cells #[.int .i64 a1_0,.int .i64 a1_1,.bool a1_2,.slice A1_3 l1_3.length c1_3,.bool a1_4,.slice A1_5 l1_5.length c1_5] 30 (0,0)) (zzE BK334.out)):gb334≠gb338));have n6_:=zzm ((by rw [hg];exact Nat.ne_of_gt (blk_lt (g:=gb334) (o:=.cells #[.int .i64 a1_0,.int .i64 a1_1,.bool a1_2,.slice A1_3 l1_3.length c1_3,.bool a1_4,.slice A1_5 l1_5.length c1_5] 30 (0,0)) (zzE BK334.out)):gb338≠gb334));clear BK334 HB;have BK334:=n0_;have HB:=n1_;have BK338:=n2_;have GW338:=n3_;have GE338:=n4_;have NB334_338:=n5_;have NB338_334:=n6_;clear n0_ n1_ n2_ n3_ n4_ n5_ n6_ hb hbox hg;have hnb28:=NB338_334.out;have hnc28:=NB334_338.out;obtain ⟨hcz29_0,hcz29_1,hcz29_2,hcz29_3,hcz29_4,hcz29_5,hfz29_0,hfz29_1,hfz29_2,hfz29_3,hfz29_4,hfz29_5⟩:=zzc6 BK338.out;have p339 : 0≤(x5_1:Int):=zzt;have q339:x5_1 < (l0.length:Int):=zzt;obtain ⟨ad339,A339_5,c339_5,e339,hx339_0,hx339_1,hx339_2,hx339_3,hx339_4,hx339_5,hl339_5,hi339_5⟩:=Qw HR0.out x5_1 p339 q339;(try rw [← Nbq9.out] at hx339_0);(try rw [← Nbq14.out] at hx339_0);(try rw [← Nbq9.out] at hx339_1);(try rw [← Nbq14.out] at hx339_1);obtain rfl:ad335=ad339:=(by injection e339);have hn339_0:ad335.block≠gb338:=Nat.ne_of_lt (Nat.lt_of_lt_of_le (by have:=zzn _ _ hx339_0;first|rwa [add_block] at this|exact this) GW338.out);have hn339_1:ad335.block≠gb338:=Nat.ne_of_lt (Nat.lt_of_lt_of_le (by have:=zzn _ _ hx339_0;first|rwa [add_block] at this|exact this) GW338.out);have hn339_2:ad335.block≠gb338:=Nat.ne_of_lt (Nat.lt_of_lt_of_le (by have:=zzn _ _ hx339_0;first|rwa [add_block] at this|exact this) GW338.out);have hn339_3:ad335.block≠gb338:=Nat.ne_of_lt (Nat.lt_of_lt_of_le (by have:=zzn _ _ hx339_0;first|rwa [add_block] at this|exact this) GW338.out);have hn339_4:ad335.block≠gb338:=Nat.ne_of_lt (Nat.lt_of_lt_of_le (by have:=zzn _ _ hx339_0;first|rwa [add_block] at this|exact this) GW338.out);have hn339_5:ad335.block≠gb338:=Nat.ne_of_lt (Nat.lt_of_lt_of_le (by have:=zzn _ _ hx339_0;first|rwa [add_block] at this|exact this) GW338.out);replace hx339_0:=zzx HB.out hx339_0;replace hx339_1:=zzx HB.out hx339_1;replace hx339_2:=zzx HB.out hx339_2;replace hx339_3:=zzx HB.out hx339_3;replace hx339_4:=zzx HB.out hx339_4;replace hx339_5:=zzx HB.out hx339_5;have HR339_5:=zzm hi339_5;have HC339_5:=zzm hl339_5;clear hi339_5 hl339_5;replace hx339_0:=(cell_far (p:=⟨gb338,0,none⟩) (by first|(rw [add_block];exact hn339_0)|(show (Addr.add _ _).block≠_;rw [add_block];exact hn339_0)|exact hn339_0) (.int .i64 ((Qb ((Qa l0 x5_1).f5) x6_2).f0))).trans hx339_0;replace hx339_1:=(cell_far (p:=⟨gb338,0,none⟩) (by first|(rw [add_block];exact hn339_0)|(show (Addr.add _ _).block≠_;rw [add_block];exact hn339_0)|exact hn339_0) (.int .i64 ((Qb ((Qa l0 x5_1).f5) x6_2).f0))).trans hx339_1;replace hx339_2:=(cell_far (p:=⟨gb338,0,none⟩) (by first|(rw [add_block];exact hn339_0)|(show (Addr.add _ _).block≠_;rw [add_block];exact hn339_0)|exact hn339_0) (.int .i64 ((Qb ((Qa l0 x5_1).f5) x6_2).f0))).trans hx339_2;replace hx339_3:=(cell_far (p:=⟨gb338,0,none⟩) (by first|(rw [add_block];exact hn339_0)|(show (Addr.add _ _).block≠_;rw [add_block];exact hn339_0)|exact hn339_0) (.int .i64 ((Qb ((Qa l0 x5_1).f5) x6_2).f0))).trans hx339_3;replace hx339_4:=(cell_far (p:=⟨gb338,0,none⟩) (by first|(rw [add_block];exact hn339_0)|(show (Addr.add _ _).block≠_;rw [add_block];exact hn339_0)|exact hn339_0) (.int .i64 ((Qb ((Qa l0 x5_1).f5) x6_2).f0))).trans hx339_4;replace hx339_5:=(cell_far (p:=⟨gb338,0,none⟩) (by first|(rw [add_block];exact hn339_0)|(show (Addr.add _ _).block≠_;rw [add_block];exact hn339_0)|exact hn339_0) (.int .i64 ((Qb ((Qa l0 x5_1).f5) x6_2).f0))).trans hx339_5;replace hx339_0:=(cell_far (p:=⟨gb338,1,none⟩) (by first|(rw [add_block];exact hn339_1)|(show (Addr.add _ _).block≠_;rw [add_block];exact hn339_1)|exact hn339_1) (.int .i64 ((Qb ((Qa l0 x5_1).f5) x6_2).f1))).trans hx339_0;replace hx339_1:=(cell_far (p:=⟨gb338,1,none⟩) (by first|(rw [add_block];exact hn339_1)|(show (Addr.add _ _).block≠_;rw [add_block];exact hn339_1)|exact hn339_1) (.int .i64 ((Qb ((Qa l0 x5_1).f5) x6_2).f1))).trans hx339_1;replace hx339_2:=(cell_far (p:=⟨gb338,1,none⟩) (by first|(rw [add_block];exact hn339_1)|(show (Addr.add _ _).block≠_;rw [add_block];exact hn339_1)|exact hn339_1) (.int .i64 ((Qb ((Qa l0 x5_1).f5) x6_2).f1))).trans hx339_2;replace hx339_3:=(cell_far (p:=⟨gb338,1,none⟩) (by first|(rw [add_block];exact hn339_1)|(show (Addr.add _ _).block≠_;rw [add_block];exact hn339_1)|exact hn339_1) (.int .i64 ((Qb ((Qa l0 x5_1).f5) x6_2).f1))).trans hx339_3;replace hx339_4:=(cell_far (p:=⟨gb338,1,none⟩) (by first|(rw [add_block];exact hn339_1)|(show (Addr.add _ _).block≠_;rw [add_block];exact hn339_1)|exact hn339_1) (.int .i64 ((Qb ((Qa l0 x5_1).f5) x6_2).f1))).trans hx339_4;replace hx339_5:=(cell_far (p:=⟨gb338,1,none⟩) (by first|(rw [add_block];exact hn339_1)|(show (Addr.add _ _).block≠_;rw [add_block];exact hn339_1)|exact hn339_1) (.int .i64 ((Qb ((Qa l0 x5_1).f5) x6_2).f1))).trans hx339_5;replace hx339_0:=(cell_far (p:=⟨gb338,2,none⟩) (by first|(rw [add_block];exact hn339_2)|(show (Addr.add _ _).block≠_;rw [add_block];exact hn339_2)|exact hn339_2) (.bool true)).trans hx339_0;replace hx339_1:=(cell_far (p:=⟨gb338,2,none⟩) (by first|(rw [add_block];exact hn339_2)|(show (Addr.add _ _).block≠_;rw [add_block];exact hn339_2)|exact hn339_2) (.bool true)).trans hx339_1;replace hx339_2:=(cell_far (p:=⟨gb338,2,none⟩) (by first|(rw [add_block];exact hn339_2)|(show (Addr.add _ _).block≠_;rw [add_block];exact hn339_2)|exact hn339_2) (.bool true)).trans hx339_2;replace hx339_3:=(cell_far (p:=⟨gb338,2,none⟩) (by first|(rw [add_block];exact hn339_2)|(show (Addr.add _ _).block≠_;rw [add_block];exact hn339_2)|exact hn339_2) (.bool true)).trans hx339_3;replace hx339_4:=(cell_far (p:=⟨gb338,2,none⟩) (by first|(rw [add_block];exact hn339_2)|(show (Addr.add _ _).block≠_;rw [add_block];exact hn339_2)|exact hn339_2) (.bool true)).trans hx339_4;replace hx339_5:=(cell_far (p:=⟨gb338,2,none⟩) (by first|(rw [add_block];exact hn339_2)|(show (Addr.add _ _).block≠_;rw [add_block];exact hn339_2)|exact hn339_2) (.bool true)).trans hx339_5;replace hx339_0:=(cell_far (p:=⟨gb338,3,none⟩) (by first|(rw [add_block];exact hn339_3)|(show (Addr.add _ _).block≠_;rw [add_block];exact hn339_3)|exact hn339_3) (.slice A337_3 ((Qb ((Qa l0 x5_1).f5) x6_2).f3).length c337_3)).trans hx339_0;replace hx339_1:=(cell_far (p:=⟨gb338,3,none⟩) (by first|(rw [add_block];exact hn339_3)|(show (Addr.add _ _).block≠_;rw [add_block];exact hn339_3)|exact hn339_3) (.slice A337_3 ((Qb ((Qa l0 x5_1).f5) x6_2).f3).length c337_3)).trans hx339_1;replace hx339_2:=(cell_far (p:=⟨gb338,3,none⟩) (by first|(rw [add_block];exact hn339_3)|(show (Addr.add _ _).block≠_;rw [add_block];exact hn339_3)|exact hn339_3) (.slice A337_3 ((Qb ((Qa l0 x5_1).f5) x6_2).f3).length c337_3)).trans hx339_2;replace hx339_3:=(cell_far (p:=⟨gb338,3,none⟩) (by first|(rw [add_block];exact hn339_3)|(show (Addr.add _ _).block≠_;rw [add_block];exact hn339_3)|exact hn339_3) (.slice A337_3 ((Qb ((Qa l0 x5_1).f5) x6_2).f3).length c337_3)).trans hx339_3;replace hx339_4:=(cell_far (p:=⟨gb338,3,none⟩) (by first|(rw [add_block];exact hn339_3)|(show (Addr.add _ _).block≠_;rw [add_block];exact hn339_3)|exact hn339_3) (.slice A337_3 ((Qb ((Qa l0 x5_1).f5) x6_2).f3).length c337_3)).trans hx339_4;replace hx339_5:=(cell_far (p:=⟨gb338,3,none⟩) (by first|(rw [add_block];exact hn339_3)|(show (Addr.add _ _).block≠_;rw [add_block];exact hn339_3)|exact hn339_3) (.slice A337_3 ((Qb ((Qa l0 x5_1).f5) x6_2).f3).length c337_3)).trans hx339_5;replace hx339_0:=(cell_far (p:=⟨gb338,4,none⟩) (by first|(rw [add_block];exact hn339_4)|(show (Addr.add _ _).block≠_;rw [add_block];exact hn339_4)|exact hn339_4) (.bool ((Qb ((Qa l0 x5_1).f5) x6_2).f4))).trans hx339_0;replace hx339_1:=(cell_far (p:=⟨gb338,4,none⟩) (by first|(rw [add_block];exact hn339_4)|(show (Addr.add _ _).block≠_;rw [add_block];exact hn339_4)|exact hn339_4) (.bool ((Qb ((Qa l0 x5_1).f5) x6_2).f4))).trans hx339_1;replace hx339_2:=(cell_far (p:=⟨gb338,4,none⟩) (by first|(rw [add_block];exact hn339_4)|(show (Addr.add _ _).block≠_;rw [add_block];exact hn339_4)|exact hn339_4) (.bool ((Qb ((Qa l0 x5_1).f5) x6_2).f4))).trans hx339_2;replace hx339_3:=(cell_far (p:=⟨gb338,4,none⟩) (by first|(rw [add_block];exact hn339_4)|(show (Addr.add _ _).block≠_;rw [add_block];exact hn339_4)|exact hn339_4) (.bool ((Qb ((Qa l0 x5_1).f5) x6_2).f4))).trans hx339_3;replace hx339_4:=(cell_far (p:=⟨gb338,4,none⟩) (by first|(rw [add_block];exact hn339_4)|(show (Addr.add _ _).block≠_;rw [add_block];exact hn339_4)|exact hn339_4) (.bool ((Qb ((Qa l0 x5_1).f5) x6_2).f4))).trans hx339_4;replace hx339_5:=(cell_far (p:=⟨gb338,4,none⟩) (by first|(rw [add_block];exact hn339_4)|(show (Addr.add _ _).block≠_;rw [add_block];exact hn339_4)|exact hn339_4) (.bool ((Qb ((Qa l0 x5_1).f5) x6_2).f4))).trans hx339_5;replace hx339_0:=(cell_far (p:=⟨gb338,5,none⟩) (by first|(rw [add_block];exact hn339_5)|(show (Addr.add _ _).block≠_;rw [add_block];exact hn339_5)|exact hn339_5) (.slice A337_5 ((Qb ((Qa l0 x5_1).f5) x6_2).f5).length c337_5)).trans hx339_0;replace hx339_1:=(cell_far (p:=⟨gb338,5,none⟩) (by first|(rw [add_block];exact hn339_5)|(show (Addr.add _ _).block≠_;rw [add_block];exact hn339_5)|exact hn339_5) (.slice A337_5 ((Qb ((Qa l0 x5_1).f5) x6_2).f5).length c337_5)).trans hx339_1;replace hx339_2:=(cell_far (p:=⟨gb338,5,none⟩) (by first|(rw [add_block];exact hn339_5)|(show (Addr.add _ _).block≠_;rw [add_block];exact hn339_5)|exact hn339_5) (.slice A337_5 ((Qb ((Qa l0 x5_1).f5) x6_2).f5).length c337_5)).trans hx339_2;replace hx339_3:=(cell_far (p:=⟨gb338,5,none⟩) (by first|(rw [add_block];exact hn339_5)|(show (Addr.add _ _).block≠_;rw [add_block];exact hn339_5)|exact hn339_5) (.slice A337_5 ((Qb ((Qa l0 x5_1).f5) x6_2).f5).length c337_5)).trans hx339_3;replace hx339_4:=(cell_far (p:=⟨gb338,5,none⟩) (by first|(rw [add_block];exact hn339_5)|(show (Addr.add _ _).block≠_;rw [add_block];exact hn339_5)|exact hn339_5) (.slice A337_5 ((Qb ((Qa l0 x5_1).f5) x6_2).f5).length c337_5)).trans hx339_4;replace hx339_5:=(cell_far (p:=⟨gb338,5,none⟩) (by first|(rw [add_block];exact hn339_5)|(show (Addr.add _ _).block≠_;rw [add_block];exact hn339_5)|exact hn339_5) (.slice A337_5 ((Qb ((Qa l0 x5_1).f5) x6_2).f5).length c337_5)).trans hx339_5;clear hn339_0 hn339_1 hn339_2 hn339_3 hn339_4 hn339_5;replace p339:=eq_true p339;replace q339:=eq_true q339;obtain ⟨hcz30_0,hcz30_1,hcz30_2,hcz30_3,hcz30_4,hcz30_5,hfz30_0,hfz30_1,hfz30_2,hfz30_3,hfz30_4,hfz30_5⟩:=zzc6 BK334.out));go_roundg k2
             case measure=>have:=HK1.out;have:=HK2.out;omega
             case rel=>exact ⟨(wrap64 (x6_2+1)),(by first|rfl|(simp;done)|(simp [*];done)),H',⟨by have:=HK1.out;have:=HK2.out;omega⟩,⟨by (with_reducible repeat (first|apply zzf|apply zzg|apply zze));refine zzj ?_ NB334_338.out _;(with_reducible repeat (first|apply zzf|apply zzg|apply zze));refine zzj ?_ NB334_338.out _;(with_reducible repeat (first|apply zzf|apply zzg|apply zze));refine zzj ?_ NB334_338.out _;(with_reducible repeat (first|apply zzf|apply zzg|apply zze));refine zzj ?_ NB334_338.out _;(with_reducible repeat (first|apply zzf|apply zzg|apply zze));refine zzj ?_ NB334_338.out _;(with_reducible repeat (first|apply zzf|apply zzg|apply zze));refine zzj ?_ NB334_338.out _;(with_reducible repeat (first|apply zzf|apply zzg|apply zze));exact BK334.out⟩,⟨by repeat (first|(with_reducible first|exact HB.out|apply zza|apply zzb|apply zzc|refine zzd ?_ GE334.out|refine zzd ?_ GE338.out)|exact HB.out)⟩⟩
           ·
            replace c15:=Bool.eq_false_iff.mpr c15;subst c15;have H1:(Qk.l1 k2 l0 x5_1 (wrap64 (x6_2+1)) a1_0 a1_1 a1_2 l1_3 a1_4 l1_5)=some r:=by rw [if_neg (show ¬ (false=true) by decide)] at H;exact H
            clear H;have H:=H1;clear H1;have H':=zzm H;clear H;have p335 : 0≤(x5_1:Int):=zzt;have q335:x5_1 < (l0.length:Int):=zzt;obtain ⟨ad335,A335_5,c335_5,e335,hx335_0,hx335_1,hx335_2,hx335_3,hx335_4,hx335_5,hl335_5,hi335_5⟩:=Qw HR0.out x5_1 p335 q335
            (try rw [← Nbq9.out] at hx335_0)
            (try rw [← Nbq14.out] at hx335_0)
            (try rw [← Nbq9.out] at hx335_1)
            (try rw [← Nbq14.out] at hx335_1);cases e335;replace hx335_0:=zzx HB.out hx335_0;replace hx335_1:=zzx HB.out hx335_1;replace hx335_2:=zzx HB.out hx335_2;replace hx335_3:=zzx HB.out hx335_3;replace hx335_4:=zzx HB.out hx335_4;replace hx335_5:=zzx HB.out hx335_5;have HR335_5:=zzm hi335_5;have HC335_5:=zzm hl335_5;clear hi335_5 hl335_5;replace p335:=eq_true p335;replace q335:=eq_true q335;have p336 : 0≤(x5_1:Int):=zzt;have q336:x5_1 < (l0.length:Int):=zzt;obtain ⟨ad336,A336_5,c336_5,e336,hx336_0,hx336_1,hx336_2,hx336_3,hx336_4,hx336_5,hl336_5,hi336_5⟩:=Qw HR0.out x5_1 p336 q336
            (try rw [← Nbq9.out] at hx336_0)
            (try rw [← Nbq14.out] at hx336_0)
            (try rw [← Nbq9.out] at hx336_1)
            (try rw [← Nbq14.out] at hx336_1);obtain rfl:ad335=ad336:=(by injection e336);replace hx336_0:=zzx HB.out hx336_0;replace hx336_1:=zzx HB.out hx336_1;replace hx336_2:=zzx HB.out hx336_2;replace hx336_3:=zzx HB.out hx336_3;replace hx336_4:=zzx HB.out hx336_4;replace hx336_5:=zzx HB.out hx336_5;have HR336_5:=zzm hi336_5;have HC336_5:=zzm hl336_5;clear hi336_5 hl336_5;replace p336:=eq_true p336;replace q336:=eq_true q336;have ea_:=Option.some.inj (hx335_5.symm.trans hx336_5);injection ea_ with ea_ en_ ec_;subst ea_;subst ec_;clear en_;have p337 : 0≤(x6_2:Int):=zzt;have q337:x6_2 < (((Qa l0 x5_1).f5).length:Int):=zzt;obtain ⟨ad337,A337_3,c337_3,A337_5,c337_5,e337,hx337_0,hx337_1,hx337_2,hx337_3,hx337_4,hx337_5,hl337_3,hi337_3,hl337_5,hi337_5⟩:=Qy HR336_5.out x6_2 p337 q337
            (try rw [← Nbq9.out] at hx337_2)
            (try rw [← Nbq14.out] at hx337_2)
            (try rw [← Nbq9.out] at hx337_4)
            (try rw [← Nbq14.out] at hx337_4);cases e337;replace hx337_0:=zzx HB.out hx337_0;replace hx337_1:=zzx HB.out hx337_1;replace hx337_2:=zzx HB.out hx337_2;replace hx337_3:=zzx HB.out hx337_3;replace hx337_4:=zzx HB.out hx337_4;replace hx337_5:=zzx HB.out hx337_5;have HR337_3:=zzm hi337_3;have HC337_3:=zzm hl337_3;clear hi337_3 hl337_3;have HR337_5:=zzm hi337_5;have HC337_5:=zzm hl337_5;clear hi337_5 hl337_5;replace p337:=eq_true p337;replace q337:=eq_true q337;go_wp2_with (first|((with_reducible refine gate_dst (N:=7) rfl ?_);refine box_event ?hg (N:=7) ?hd (cs:=#[.int .i64 0,.int .i64 0,.bool false,.slice none 0 0,.bool false,.slice none 0 0]) (t:=30) ?hr ?_;(case hd=>rfl);(case hg=>rfl);(case hr=>first|(go_simp;done)|(go_simp;rfl));intro gb338 hg w31 hbox hb;have n0_:=zzm (zzh (g:=gb334) (o:=.cells #[.int .i64 a1_0,.int .i64 a1_1,.bool a1_2,.slice A1_3 l1_3.length c1_3,.bool a1_4,.slice A1_5 l1_5.length c1_5] 30 (0,0)) (zzE BK334.out) hb);have n1_:=zzm (zzp zzh2 hb);have n2_:=zzm (hbox);have n3_:=zzm ((by rw [hg];exact (zzo zzh2):w.heap.size≤gb338));have n4_:=zzm ((by rw [hg];exact (zzo zzh2):w.heap.size≤gb338));have n5_:=zzm ((by rw [hg];exact Nat.ne_of_lt (blk_lt (g:=gb334) (o:=.cells #[.int .i64 a1_0,.int .i64 a1_1,.bool a1_2,.slice A1_3 l1_3.length c1_3,.bool a1_4,.slice A1_5 l1_5.length c1_5] 30 (0,0)) (zzE BK334.out)):gb334≠gb338));have n6_:=zzm ((by rw [hg];exact Nat.ne_of_gt (blk_lt (g:=gb334) (o:=.cells #[.int .i64 a1_0,.int .i64 a1_1,.bool a1_2,.slice A1_3 l1_3.length c1_3,.bool a1_4,.slice A1_5 l1_5.length c1_5] 30 (0,0)) (zzE BK334.out)):gb338≠gb334));clear BK334 HB;have BK334:=n0_;have HB:=n1_;have BK338:=n2_;have GW338:=n3_;have GE338:=n4_;have NB334_338:=n5_;have NB338_334:=n6_;clear n0_ n1_ n2_ n3_ n4_ n5_ n6_ hb hbox hg;have hnb32:=NB338_334.out;have hnc32:=NB334_338.out;obtain ⟨hcz33_0,hcz33_1,hcz33_2,hcz33_3,hcz33_4,hcz33_5,hfz33_0,hfz33_1,hfz33_2,hfz33_3,hfz33_4,hfz33_5⟩:=zzc6 BK338.out;have p339 : 0≤(x5_1:Int):=zzt;have q339:x5_1 < (l0.length:Int):=zzt;obtain ⟨ad339,A339_5,c339_5,e339,hx339_0,hx339_1,hx339_2,hx339_3,hx339_4,hx339_5,hl339_5,hi339_5⟩:=Qw HR0.out x5_1 p339 q339;(try rw [← Nbq9.out] at hx339_0);(try rw [← Nbq14.out] at hx339_0);(try rw [← Nbq9.out] at hx339_1);(try rw [← Nbq14.out] at hx339_1);obtain rfl:ad335=ad339:=(by injection e339);have hn339_0:ad335.block≠gb338:=Nat.ne_of_lt (Nat.lt_of_lt_of_le (by have:=zzn _ _ hx339_0;first|rwa [add_block] at this|exact this) GW338.out);have hn339_1:ad335.block≠gb338:=Nat.ne_of_lt (Nat.lt_of_lt_of_le (by have:=zzn _ _ hx339_0;first|rwa [add_block] at this|exact this) GW338.out);have hn339_2:ad335.block≠gb338:=Nat.ne_of_lt (Nat.lt_of_lt_of_le (by have:=zzn _ _ hx339_0;first|rwa [add_block] at this|exact this) GW338.out);have hn339_3:ad335.block≠gb338:=Nat.ne_of_lt (Nat.lt_of_lt_of_le (by have:=zzn _ _ hx339_0;first|rwa [add_block] at this|exact this) GW338.out);have hn339_4:ad335.block≠gb338:=Nat.ne_of_lt (Nat.lt_of_lt_of_le (by have:=zzn _ _ hx339_0;first|rwa [add_block] at this|exact this) GW338.out);have hn339_5:ad335.block≠gb338:=Nat.ne_of_lt (Nat.lt_of_lt_of_le (by have:=zzn _ _ hx339_0;first|rwa [add_block] at this|exact this) GW338.out);replace hx339_0:=zzx HB.out hx339_0;replace hx339_1:=zzx HB.out hx339_1;replace hx339_2:=zzx HB.out hx339_2;replace hx339_3:=zzx HB.out hx339_3;replace hx339_4:=zzx HB.out hx339_4;replace hx339_5:=zzx HB.out hx339_5;have HR339_5:=zzm hi339_5;have HC339_5:=zzm hl339_5;clear hi339_5 hl339_5;replace hx339_0:=(cell_far (p:=⟨gb338,0,none⟩) (by first|(rw [add_block];exact hn339_0)|(show (Addr.add _ _).block≠_;rw [add_block];exact hn339_0)|exact hn339_0) (.int .i64 ((Qb ((Qa l0 x5_1).f5) x6_2).f0))).trans hx339_0;replace hx339_1:=(cell_far (p:=⟨gb338,0,none⟩) (by first|(rw [add_block];exact hn339_0)|(show (Addr.add _ _).block≠_;rw [add_block];exact hn339_0)|exact hn339_0) (.int .i64 ((Qb ((Qa l0 x5_1).f5) x6_2).f0))).trans hx339_1;replace hx339_2:=(cell_far (p:=⟨gb338,0,none⟩) (by first|(rw [add_block];exact hn339_0)|(show (Addr.add _ _).block≠_;rw [add_block];exact hn339_0)|exact hn339_0) (.int .i64 ((Qb ((Qa l0 x5_1).f5) x6_2).f0))).trans hx339_2;replace hx339_3:=(cell_far (p:=⟨gb338,0,none⟩) (by first|(rw [add_block];exact hn339_0)|(show (Addr.add _ _).block≠_;rw [add_block];exact hn339_0)|exact hn339_0) (.int .i64 ((Qb ((Qa l0 x5_1).f5) x6_2).f0))).trans hx339_3;replace hx339_4:=(cell_far (p:=⟨gb338,0,none⟩) (by first|(rw [add_block];exact hn339_0)|(show (Addr.add _ _).block≠_;rw [add_block];exact hn339_0)|exact hn339_0) (.int .i64 ((Qb ((Qa l0 x5_1).f5) x6_2).f0))).trans hx339_4;replace hx339_5:=(cell_far (p:=⟨gb338,0,none⟩) (by first|(rw [add_block];exact hn339_0)|(show (Addr.add _ _).block≠_;rw [add_block];exact hn339_0)|exact hn339_0) (.int .i64 ((Qb ((Qa l0 x5_1).f5) x6_2).f0))).trans hx339_5;replace hx339_0:=(cell_far (p:=⟨gb338,1,none⟩) (by first|(rw [add_block];exact hn339_1)|(show (Addr.add _ _).block≠_;rw [add_block];exact hn339_1)|exact hn339_1) (.int .i64 ((Qb ((Qa l0 x5_1).f5) x6_2).f1))).trans hx339_0;replace hx339_1:=(cell_far (p:=⟨gb338,1,none⟩) (by first|(rw [add_block];exact hn339_1)|(show (Addr.add _ _).block≠_;rw [add_block];exact hn339_1)|exact hn339_1) (.int .i64 ((Qb ((Qa l0 x5_1).f5) x6_2).f1))).trans hx339_1;replace hx339_2:=(cell_far (p:=⟨gb338,1,none⟩) (by first|(rw [add_block];exact hn339_1)|(show (Addr.add _ _).block≠_;rw [add_block];exact hn339_1)|exact hn339_1) (.int .i64 ((Qb ((Qa l0 x5_1).f5) x6_2).f1))).trans hx339_2;replace hx339_3:=(cell_far (p:=⟨gb338,1,none⟩) (by first|(rw [add_block];exact hn339_1)|(show (Addr.add _ _).block≠_;rw [add_block];exact hn339_1)|exact hn339_1) (.int .i64 ((Qb ((Qa l0 x5_1).f5) x6_2).f1))).trans hx339_3;replace hx339_4:=(cell_far (p:=⟨gb338,1,none⟩) (by first|(rw [add_block];exact hn339_1)|(show (Addr.add _ _).block≠_;rw [add_block];exact hn339_1)|exact hn339_1) (.int .i64 ((Qb ((Qa l0 x5_1).f5) x6_2).f1))).trans hx339_4;replace hx339_5:=(cell_far (p:=⟨gb338,1,none⟩) (by first|(rw [add_block];exact hn339_1)|(show (Addr.add _ _).block≠_;rw [add_block];exact hn339_1)|exact hn339_1) (.int .i64 ((Qb ((Qa l0 x5_1).f5) x6_2).f1))).trans hx339_5;replace hx339_0:=(cell_far (p:=⟨gb338,2,none⟩) (by first|(rw [add_block];exact hn339_2)|(show (Addr.add _ _).block≠_;rw [add_block];exact hn339_2)|exact hn339_2) (.bool false)).trans hx339_0;replace hx339_1:=(cell_far (p:=⟨gb338,2,none⟩) (by first|(rw [add_block];exact hn339_2)|(show (Addr.add _ _).block≠_;rw [add_block];exact hn339_2)|exact hn339_2) (.bool false)).trans hx339_1;replace hx339_2:=(cell_far (p:=⟨gb338,2,none⟩) (by first|(rw [add_block];exact hn339_2)|(show (Addr.add _ _).block≠_;rw [add_block];exact hn339_2)|exact hn339_2) (.bool false)).trans hx339_2;replace hx339_3:=(cell_far (p:=⟨gb338,2,none⟩) (by first|(rw [add_block];exact hn339_2)|(show (Addr.add _ _).block≠_;rw [add_block];exact hn339_2)|exact hn339_2) (.bool false)).trans hx339_3;replace hx339_4:=(cell_far (p:=⟨gb338,2,none⟩) (by first|(rw [add_block];exact hn339_2)|(show (Addr.add _ _).block≠_;rw [add_block];exact hn339_2)|exact hn339_2) (.bool false)).trans hx339_4;replace hx339_5:=(cell_far (p:=⟨gb338,2,none⟩) (by first|(rw [add_block];exact hn339_2)|(show (Addr.add _ _).block≠_;rw [add_block];exact hn339_2)|exact hn339_2) (.bool false)).trans hx339_5;replace hx339_0:=(cell_far (p:=⟨gb338,3,none⟩) (by first|(rw [add_block];exact hn339_3)|(show (Addr.add _ _).block≠_;rw [add_block];exact hn339_3)|exact hn339_3) (.slice A337_3 ((Qb ((Qa l0 x5_1).f5) x6_2).f3).length c337_3)).trans hx339_0;replace hx339_1:=(cell_far (p:=⟨gb338,3,none⟩) (by first|(rw [add_block];exact hn339_3)|(show (Addr.add _ _).block≠_;rw [add_block];exact hn339_3)|exact hn339_3) (.slice A337_3 ((Qb ((Qa l0 x5_1).f5) x6_2).f3).length c337_3)).trans hx339_1;replace hx339_2:=(cell_far (p:=⟨gb338,3,none⟩) (by first|(rw [add_block];exact hn339_3)|(show (Addr.add _ _).block≠_;rw [add_block];exact hn339_3)|exact hn339_3) (.slice A337_3 ((Qb ((Qa l0 x5_1).f5) x6_2).f3).length c337_3)).trans hx339_2;replace hx339_3:=(cell_far (p:=⟨gb338,3,none⟩) (by first|(rw [add_block];exact hn339_3)|(show (Addr.add _ _).block≠_;rw [add_block];exact hn339_3)|exact hn339_3) (.slice A337_3 ((Qb ((Qa l0 x5_1).f5) x6_2).f3).length c337_3)).trans hx339_3;replace hx339_4:=(cell_far (p:=⟨gb338,3,none⟩) (by first|(rw [add_block];exact hn339_3)|(show (Addr.add _ _).block≠_;rw [add_block];exact hn339_3)|exact hn339_3) (.slice A337_3 ((Qb ((Qa l0 x5_1).f5) x6_2).f3).length c337_3)).trans hx339_4;replace hx339_5:=(cell_far (p:=⟨gb338,3,none⟩) (by first|(rw [add_block];exact hn339_3)|(show (Addr.add _ _).block≠_;rw [add_block];exact hn339_3)|exact hn339_3) (.slice A337_3 ((Qb ((Qa l0 x5_1).f5) x6_2).f3).length c337_3)).trans hx339_5;replace hx339_0:=(cell_far (p:=⟨gb338,4,none⟩) (by first|(rw [add_block];exact hn339_4)|(show (Addr.add _ _).block≠_;rw [add_block];exact hn339_4)|exact hn339_4) (.bool ((Qb ((Qa l0 x5_1).f5) x6_2).f4))).trans hx339_0;replace hx339_1:=(cell_far (p:=⟨gb338,4,none⟩) (by first|(rw [add_block];exact hn339_4)|(show (Addr.add _ _).block≠_;rw [add_block];exact hn339_4)|exact hn339_4) (.bool ((Qb ((Qa l0 x5_1).f5) x6_2).f4))).trans hx339_1;replace hx339_2:=(cell_far (p:=⟨gb338,4,none⟩) (by first|(rw [add_block];exact hn339_4)|(show (Addr.add _ _).block≠_;rw [add_block];exact hn339_4)|exact hn339_4) (.bool ((Qb ((Qa l0 x5_1).f5) x6_2).f4))).trans hx339_2;replace hx339_3:=(cell_far (p:=⟨gb338,4,none⟩) (by first|(rw [add_block];exact hn339_4)|(show (Addr.add _ _).block≠_;rw [add_block];exact hn339_4)|exact hn339_4) (.bool ((Qb ((Qa l0 x5_1).f5) x6_2).f4))).trans hx339_3;replace hx339_4:=(cell_far (p:=⟨gb338,4,none⟩) (by first|(rw [add_block];exact hn339_4)|(show (Addr.add _ _).block≠_;rw [add_block];exact hn339_4)|exact hn339_4) (.bool ((Qb ((Qa l0 x5_1).f5) x6_2).f4))).trans hx339_4;replace hx339_5:=(cell_far (p:=⟨gb338,4,none⟩) (by first|(rw [add_block];exact hn339_4)|(show (Addr.add _ _).block≠_;rw [add_block];exact hn339_4)|exact hn339_4) (.bool ((Qb ((Qa l0 x5_1).f5) x6_2).f4))).trans hx339_5;replace hx339_0:=(cell_far (p:=⟨gb338,5,none⟩) (by first|(rw [add_block];exact hn339_5)|(show (Addr.add _ _).block≠_;rw [add_block];exact hn339_5)|exact hn339_5) (.slice A337_5 ((Qb ((Qa l0 x5_1).f5) x6_2).f5).length c337_5)).trans hx339_0;replace hx339_1:=(cell_far (p:=⟨gb338,5,none⟩) (by first|(rw [add_block];exact hn339_5)|(show (Addr.add _ _).block≠_;rw [add_block];exact hn339_5)|exact hn339_5) (.slice A337_5 ((Qb ((Qa l0 x5_1).f5) x6_2).f5).length c337_5)).trans hx339_1;replace hx339_2:=(cell_far (p:=⟨gb338,5,none⟩) (by first|(rw [add_block];exact hn339_5)|(show (Addr.add _ _).block≠_;rw [add_block];exact hn339_5)|exact hn339_5) (.slice A337_5 ((Qb ((Qa l0 x5_1).f5) x6_2).f5).length c337_5)).trans hx339_2;replace hx339_3:=(cell_far (p:=⟨gb338,5,none⟩) (by first|(rw [add_block];exact hn339_5)|(show (Addr.add _ _).block≠_;rw [add_block];exact hn339_5)|exact hn339_5) (.slice A337_5 ((Qb ((Qa l0 x5_1).f5) x6_2).f5).length c337_5)).trans hx339_3;replace hx339_4:=(cell_far (p:=⟨gb338,5,none⟩) (by first|(rw [add_block];exact hn339_5)|(show (Addr.add _ _).block≠_;rw [add_block];exact hn339_5)|exact hn339_5) (.slice A337_5 ((Qb ((Qa l0 x5_1).f5) x6_2).f5).length c337_5)).trans hx339_4;replace hx339_5:=(cell_far (p:=⟨gb338,5,none⟩) (by first|(rw [add_block];exact hn339_5)|(show (Addr.add _ _).block≠_;rw [add_block];exact hn339_5)|exact hn339_5) (.slice A337_5 ((Qb ((Qa l0 x5_1).f5) x6_2).f5).length c337_5)).trans hx339_5;clear hn339_0 hn339_1 hn339_2 hn339_3 hn339_4 hn339_5;replace p339:=eq_true p339;replace q339:=eq_true q339));go_roundg k2
            case measure=>have:=HK1.out;have:=HK2.out;omega
            case rel=>exact ⟨(wrap64 (x6_2+1)),(by first|rfl|(simp;done)|(simp [*];done)),H',⟨by have:=HK1.out;have:=HK2.out;omega⟩,⟨by (with_reducible repeat (first|apply zzf|apply zzg|apply zze));refine zzj ?_ NB334_338.out _;(with_reducible repeat (first|apply zzf|apply zzg|apply zze));refine zzj ?_ NB334_338.out _;(with_reducible repeat (first|apply zzf|apply zzg|apply zze));refine zzj ?_ NB334_338.out _;(with_reducible repeat (first|apply zzf|apply zzg|apply zze));refine zzj ?_ NB334_338.out _;(with_reducible repeat (first|apply zzf|apply zzg|apply zze));refine zzj ?_ NB334_338.out _;(with_reducible repeat (first|apply zzf|apply zzg|apply zze));refine zzj ?_ NB334_338.out _;(with_reducible repeat (first|apply zzf|apply zzg|apply zze));exact BK334.out⟩,⟨by repeat (first|(with_reducible first|exact HB.out|apply zza|apply zzb|apply zzc|refine zzd ?_ GE334.out|refine zzd ?_ GE338.out)|exact HB.out)⟩⟩
         ·
          rw [if_neg c8] at H;exact absurd H (by simp)
        ·
         rw [if_neg c7] at H;have c7b0:decide (x6_2 < (((Qa l0 x5_1).f5).length:Int))=false:=decide_eq_false c7;clear c7;have H':=zzm H;clear H;have p335 : 0≤(x5_1:Int):=zzt;have q335:x5_1 < (l0.length:Int):=zzt;obtain ⟨ad335,A335_5,c335_5,e335,hx335_0,hx335_1,hx335_2,hx335_3,hx335_4,hx335_5,hl335_5,hi335_5⟩:=Qw HR0.out x5_1 p335 q335;cases e335;replace hx335_0:=zzx HB.out hx335_0;replace hx335_1:=zzx HB.out hx335_1;replace hx335_2:=zzx HB.out hx335_2;replace hx335_3:=zzx HB.out hx335_3;replace hx335_4:=zzx HB.out hx335_4;replace hx335_5:=zzx HB.out hx335_5;have HR335_5:=zzm hi335_5;have HC335_5:=zzm hl335_5;clear hi335_5 hl335_5;replace p335:=eq_true p335;replace q335:=eq_true q335;go_wp2;go_roundg k2
         case measure=>have:=HK1.out;have:=HK2.out;omega
         case rel=>exact ⟨(wrap64 (x5_1+1)),(by first|rfl|(simp;done)|(simp [*];done)),H',⟨by have:=HK1.out;have:=HK2.out;omega⟩,⟨by (with_reducible repeat (first|apply zzf|apply zzg|apply zze));exact BK334.out⟩,⟨by repeat (first|(with_reducible first|exact HB.out|apply zza|apply zzb|apply zzc|refine zzd ?_ GE334.out)|exact HB.out)⟩⟩
       ·
        rw [if_neg c6] at H;exact absurd H (by simp)
      ·
       rw [if_neg c5] at H;exact absurd H (by simp)
   ·
    rw [if_neg c4] at H;have c4b0:decide (x5_1 < (l0.length:Int))=false:=decide_eq_false c4;clear c4;obtain rfl:=Option.some.inj H;go_wp2;go_ret;exact ⟨by first|rfl|(simp [errW_none,errW_some] <;> rfl)|(simp [*,errW_none,errW_some] <;> rfl),by repeat (first|(with_reducible first|exact HB.out|apply zza|apply zzb|apply zzc|refine zzd ?_ GE334.out)|exact HB.out)⟩
def Rd.f (k:Nat) (l0:List (S34)) (a1_0:Bool) (a1_1:Bool) (a1_2:Int) (a1_3:Int) (a1_4:Int) (l1_5:List (S30)) (a2_0:Int) (a2_1:Int) (a2_2:Bool) (l2_3:List Int) (a2_4:Bool) (l2_5:List Int) (a3:Bool):Option (Bool):=if a1_1=true then (some true) else (if a2_2=true then (if a2_4=true then ((Qk.f k l0 a2_0 a2_1 a2_2 l2_3 a2_4 l2_5).bind fun t343=>(some (!t343))) else (if a3=true then ((Qk.f k l0 a2_0 a2_1 a2_2 l2_3 a2_4 l2_5).bind fun t344=>(some (!t344))) else (some false))) else (some false))
set_option maxHeartbeats 8000000 in
set_option maxRecDepth 100000 in
theorem Rd.calls (k:Nat) (A0:Option Addr) (c0:Nat) (l0:List (S34)) (a1_0:Bool) (a1_1:Bool) (a1_2:Int) (a1_3:Int) (a1_4:Int) (A1_5:Option Addr) (c1_5:Nat) (l1_5:List (S30)) (a2_0:Int) (a2_1:Int) (a2_2:Bool) (A2_3:Option Addr) (c2_3:Nat) (l2_3:List Int) (a2_4:Bool) (A2_5:Option Addr) (c2_5:Nat) (l2_5:List Int) (a3:Bool) (r:Bool) (w:World) (hr0:Kd.C k34 w A0 l0.length l0) (hc0:l0.length≤c0) (hr1_5:Kd.C k30 w A1_5 l1_5.length l1_5) (hc1_5:l1_5.length≤c1_5) (hr2_3:Kd.C (Kd.int .i64) w A2_3 l2_3.length l2_3) (hc2_3:l2_3.length≤c2_3) (hr2_5:Kd.C (Kd.int .i64) w A2_5 l2_5.length l2_5) (hc2_5:l2_5.length≤c2_5) (h:Rd.f k l0 a1_0 a1_1 a1_2 a1_3 a1_4 l1_5 a2_0 a2_1 a2_2 l2_3 a2_4 l2_5 a3=some r) :
  Calls Try.prog 44 #[.slice A0 l0.length c0,.agg #[.bool a1_0,.bool a1_1,.int .i64 a1_2,.int .i64 a1_3,.int .i64 a1_4,.slice A1_5 l1_5.length c1_5],.agg #[.int .i64 a2_0,.int .i64 a2_1,.bool a2_2,.slice A2_3 l2_3.length c2_3,.bool a2_4,.slice A2_5 l2_5.length c2_5],.bool a3] w fun e w'=>e = .returned (.bool r)∧Below w.heap.size w w':=by
 have hu34:=Try.underlying34;have hu30:=Try.underlying30;have HR0:=zzm hr0;have HC0:=zzm hc0;clear hr0 hc0;have HR1_5:=zzm hr1_5;have HC1_5:=zzm hc1_5;clear hr1_5 hc1_5;have HR2_3:=zzm hr2_3;have HC2_3:=zzm hc2_3;clear hr2_3 hc2_3;have HR2_5:=zzm hr2_5;have HC2_5:=zzm hc2_5;clear hr2_5 hc2_5;have HB:=zzm (Below.refl w.heap.size w);have H:(if a1_1=true then (some true) else (if a2_2=true then (if a2_4=true then ((Qk.f k l0 a2_0 a2_1 a2_2 l2_3 a2_4 l2_5).bind fun t343=>(some (!t343))) else (if a3=true then ((Qk.f k l0 a2_0 a2_1 a2_2 l2_3 a2_4 l2_5).bind fun t344=>(some (!t344))) else (some false))) else (some false)))=some r:=h;clear h;by_cases c5:a1_1=true
 ·
  subst c5;have H1:(some true)=some r:=by rw [if_pos rfl] at H;exact H
  clear H;have H:=H1;clear H1;obtain rfl:=Option.some.inj H;go_enter Try.func44,Try.ntmps44;go_wp2_with (first|((with_reducible refine gate_dst (N:=5) rfl ?_);refine box_event ?hg (N:=5) ?hd (cs:=#[.bool a1_0,.bool true,.int .i64 a1_2,.int .i64 a1_3,.int .i64 a1_4,.slice A1_5 l1_5.length c1_5]) (t:=34) ?hr ?_;(case hd=>rfl);(case hg=>rfl);(case hr=>first|(go_simp;done)|(go_simp;rfl));intro gb341 hg w6 hbox hb;have n0_:=zzm (zzp zzh1 hb);have n1_:=zzm (hbox);have n2_:=zzm ((by rw [hg];exact (zzo zzh1):w.heap.size≤gb341));have n3_:=zzm ((by rw [hg];exact (zzo zzh1):w.heap.size≤gb341));clear HB;have HB:=n0_;have BK341:=n1_;have GW341:=n2_;have GE341:=n3_;clear n0_ n1_ n2_ n3_ hb hbox hg)|((with_reducible refine gate_dst (N:=6) rfl ?_);refine box_event ?hg (N:=6) ?hd (cs:=#[.int .i64 a2_0,.int .i64 a2_1,.bool a2_2,.slice A2_3 l2_3.length c2_3,.bool a2_4,.slice A2_5 l2_5.length c2_5]) (t:=30) ?hr ?_;(case hd=>rfl);(case hg=>rfl);(case hr=>first|(go_simp;done)|(go_simp;rfl));intro gb342 hg w7 hbox hb;have n0_:=zzm (zzh (g:=gb341) (o:=.cells #[.bool a1_0,.bool true,.int .i64 a1_2,.int .i64 a1_3,.int .i64 a1_4,.slice A1_5 l1_5.length c1_5] 34 (0,0)) (zzE BK341.out) hb);have n1_:=zzm (zzp zzh2 hb);have n2_:=zzm (hbox);have n3_:=zzm ((by rw [hg];exact (zzo zzh2):w.heap.size≤gb342));have n4_:=zzm ((by rw [hg];exact (zzo zzh2):w.heap.size≤gb342));have n5_:=zzm ((by rw [hg];exact Nat.ne_of_lt (blk_lt (g:=gb341) (o:=.cells #[.bool a1_0,.bool true,.int .i64 a1_2,.int .i64 a1_3,.int .i64 a1_4,.slice A1_5 l1_5.length c1_5] 34 (0,0)) (zzE BK341.out)):gb341≠gb342));have n6_:=zzm ((by rw [hg];exact Nat.ne_of_gt (blk_lt (g:=gb341) (o:=.cells #[.bool a1_0,.bool true,.int .i64 a1_2,.int .i64 a1_3,.int .i64 a1_4,.slice A1_5 l1_5.length c1_5] 34 (0,0)) (zzE BK341.out)):gb342≠gb341));clear BK341 HB;have BK341:=n0_;have HB:=n1_;have BK342:=n2_;have GW342:=n3_;have GE342:=n4_;have NB341_342:=n5_;have NB342_341:=n6_;clear n0_ n1_ n2_ n3_ n4_ n5_ n6_ hb hbox hg;have hnb8:=NB341_342.out;have hnc8:=NB342_341.out;obtain ⟨hcz9_0,hcz9_1,hcz9_2,hcz9_3,hcz9_4,hcz9_5,hfz9_0,hfz9_1,hfz9_2,hfz9_3,hfz9_4,hfz9_5⟩:=zzc6 BK341.out));go_ret;exact ⟨by first|rfl|(simp [errW_none,errW_some] <;> rfl)|(simp [*,errW_none,errW_some] <;> rfl),by repeat (first|(with_reducible first|exact HB.out|apply zza|apply zzb|apply zzc|refine zzd ?_ GE341.out|refine zzd ?_ GE342.out)|exact HB.out)⟩
 ·
  replace c5:=Bool.eq_false_iff.mpr c5;subst c5;have H1:(if a2_2=true then (if a2_4=true then ((Qk.f k l0 a2_0 a2_1 a2_2 l2_3 a2_4 l2_5).bind fun t343=>(some (!t343))) else (if a3=true then ((Qk.f k l0 a2_0 a2_1 a2_2 l2_3 a2_4 l2_5).bind fun t344=>(some (!t344))) else (some false))) else (some false))=some r:=by rw [if_neg (show ¬ (false=true) by decide)] at H;exact H
  clear H;have H:=H1;clear H1;by_cases c10:a2_2=true
  ·
   subst c10;have H1:(if a2_4=true then ((Qk.f k l0 a2_0 a2_1 true l2_3 a2_4 l2_5).bind fun t343=>(some (!t343))) else (if a3=true then ((Qk.f k l0 a2_0 a2_1 true l2_3 a2_4 l2_5).bind fun t344=>(some (!t344))) else (some false)))=some r:=by rw [if_pos rfl] at H;exact H
   clear H;have H:=H1;clear H1;by_cases c11:a2_4=true
   ·
    subst c11;have H1:((Qk.f k l0 a2_0 a2_1 true l2_3 true l2_5).bind fun t343=>(some (!t343)))=some r:=by rw [if_pos rfl] at H;exact H
    clear H;have H:=H1;clear H1;replace H:=Option.bind_eq_some_iff.mp H;obtain ⟨t343,A120,H⟩:=H;replace H:(some (!t343))=some r:=H;have A12:=zzm A120;clear A120;obtain rfl:=Option.some.inj H;go_enter Try.func44,Try.ntmps44;go_wp2_with (first|((with_reducible refine gate_dst (N:=5) rfl ?_);refine box_event ?hg (N:=5) ?hd (cs:=#[.bool a1_0,.bool false,.int .i64 a1_2,.int .i64 a1_3,.int .i64 a1_4,.slice A1_5 l1_5.length c1_5]) (t:=34) ?hr ?_;(case hd=>rfl);(case hg=>rfl);(case hr=>first|(go_simp;done)|(go_simp;rfl));intro gb341 hg w13 hbox hb;have n0_:=zzm (zzp zzh1 hb);have n1_:=zzm (hbox);have n2_:=zzm ((by rw [hg];exact (zzo zzh1):w.heap.size≤gb341));have n3_:=zzm ((by rw [hg];exact (zzo zzh1):w.heap.size≤gb341));clear HB;have HB:=n0_;have BK341:=n1_;have GW341:=n2_;have GE341:=n3_;clear n0_ n1_ n2_ n3_ hb hbox hg)|((with_reducible refine gate_dst (N:=6) rfl ?_);refine box_event ?hg (N:=6) ?hd (cs:=#[.int .i64 a2_0,.int .i64 a2_1,.bool true,.slice A2_3 l2_3.length c2_3,.bool true,.slice A2_5 l2_5.length c2_5]) (t:=30) ?hr ?_;(case hd=>rfl);(case hg=>rfl);(case hr=>first|(go_simp;done)|(go_simp;rfl));intro gb342 hg w14 hbox hb;have n0_:=zzm (zzh (g:=gb341) (o:=.cells #[.bool a1_0,.bool false,.int .i64 a1_2,.int .i64 a1_3,.int .i64 a1_4,.slice A1_5 l1_5.length c1_5] 34 (0,0)) (zzE BK341.out) hb);have n1_:=zzm (zzp zzh2 hb);have n2_:=zzm (hbox);have n3_:=zzm ((by rw [hg];exact (zzo zzh2):w.heap.size≤gb342));have n4_:=zzm ((by rw [hg];exact (zzo zzh2):w.heap.size≤gb342));have n5_:=zzm ((by rw [hg];exact Nat.ne_of_lt (blk_lt (g:=gb341) (o:=.cells #[.bool a1_0,.bool false,.int .i64 a1_2,.int .i64 a1_3,.int .i64 a1_4,.slice A1_5 l1_5.length c1_5] 34 (0,0)) (zzE BK341.out)):gb341≠gb342));have n6_:=zzm ((by rw [hg];exact Nat.ne_of_gt (blk_lt (g:=gb341) (o:=.cells #[.bool a1_0,.bool false,.int .i64 a1_2,.int .i64 a1_3,.int .i64 a1_4,.slice A1_5 l1_5.length c1_5] 34 (0,0)) (zzE BK341.out)):gb342≠gb341));clear BK341 HB;have BK341:=n0_;have HB:=n1_;have BK342:=n2_;have GW342:=n3_;have GE342:=n4_;have NB341_342:=n5_;have NB342_341:=n6_;clear n0_ n1_ n2_ n3_ n4_ n5_ n6_ hb hbox hg;have hnb15:=NB341_342.out;have hnc15:=NB342_341.out;obtain ⟨hcz16_0,hcz16_1,hcz16_2,hcz16_3,hcz16_4,hcz16_5,hfz16_0,hfz16_1,hfz16_2,hfz16_3,hfz16_4,hfz16_5⟩:=zzc6 BK341.out;obtain ⟨hcz17_0,hcz17_1,hcz17_2,hcz17_3,hcz17_4,hcz17_5,hfz17_0,hfz17_1,hfz17_2,hfz17_3,hfz17_4,hfz17_5⟩:=zzc6 BK342.out)|(go_at_call 73;(with_reducible refine (Qk.calls k _ _ l0 a2_0 a2_1 true _ _ l2_3 true _ _ l2_5 t343 _ ?side1 ?side2 ?side3 ?side4 ?side5 ?side6 A12.out).mono ?_);(case side1=>repeat (first|exact (Kd.C_below HR0.out HB.out)|(with_reducible refine Kd.C_alloc ?_ _)|(with_reducible refine Kd.C_drewN ?_ _)|(with_reducible refine Kd.C_drew ?_)));(case side2=>exact HC0.out);(case side3=>repeat (first|exact (Kd.C_below HR2_3.out HB.out)|(with_reducible refine Kd.C_alloc ?_ _)|(with_reducible refine Kd.C_drewN ?_ _)|(with_reducible refine Kd.C_drew ?_)));(case side4=>exact HC2_3.out);(case side5=>repeat (first|exact (Kd.C_below HR2_5.out HB.out)|(with_reducible refine Kd.C_alloc ?_ _)|(with_reducible refine Kd.C_drewN ?_ _)|(with_reducible refine Kd.C_drew ?_)));(case side6=>exact HC2_5.out);rintro e w18 ⟨rfl,hb⟩;have n0_:=zzm (zzh (g:=gb341) (o:=.cells #[.bool a1_0,.bool false,.int .i64 a1_2,.int .i64 a1_3,.int .i64 a1_4,.slice A1_5 l1_5.length c1_5] 34 (0,0)) (zzE BK341.out) hb);have n1_:=zzm (zzh (g:=gb342) (o:=.cells #[.int .i64 a2_0,.int .i64 a2_1,.bool true,.slice A2_3 l2_3.length c2_3,.bool true,.slice A2_5 l2_5.length c2_5] 30 (0,0)) (zzE BK342.out) hb);have n2_:=zzm (zzp zzh2 hb);clear BK341 BK342 HB;have BK341:=n0_;have BK342:=n1_;have HB:=n2_;clear n0_ n1_ n2_;(try clear hb);(try clear hb2);(try clear hk);(try clear hi)));go_ret;exact ⟨by first|rfl|(simp [errW_none,errW_some] <;> rfl)|(simp [*,errW_none,errW_some] <;> rfl),by repeat (first|(with_reducible first|exact HB.out|apply zza|apply zzb|apply zzc|refine zzd ?_ GE341.out|refine zzd ?_ GE342.out)|exact HB.out)⟩
   ·
    replace c11:=Bool.eq_false_iff.mpr c11;subst c11;have H1:(if a3=true then ((Qk.f k l0 a2_0 a2_1 true l2_3 false l2_5).bind fun t344=>(some (!t344))) else (some false))=some r:=by rw [if_neg (show ¬ (false=true) by decide)] at H;exact H
    clear H;have H:=H1;clear H1;by_cases c19:a3=true
    ·
     subst c19;have H1:((Qk.f k l0 a2_0 a2_1 true l2_3 false l2_5).bind fun t344=>(some (!t344)))=some r:=by rw [if_pos rfl] at H;exact H
     clear H;have H:=H1;clear H1;replace H:=Option.bind_eq_some_iff.mp H;obtain ⟨t344,A200,H⟩:=H;replace H:(some (!t344))=some r:=H;have A20:=zzm A200;clear A200;obtain rfl:=Option.some.inj H;go_enter Try.func44,Try.ntmps44;go_wp2_with (first|((with_reducible refine gate_dst (N:=5) rfl ?_);refine box_event ?hg (N:=5) ?hd (cs:=#[.bool a1_0,.bool false,.int .i64 a1_2,.int .i64 a1_3,.int .i64 a1_4,.slice A1_5 l1_5.length c1_5]) (t:=34) ?hr ?_;(case hd=>rfl);(case hg=>rfl);(case hr=>first|(go_simp;done)|(go_simp;rfl));intro gb341 hg w21 hbox hb;have n0_:=zzm (zzp zzh1 hb);have n1_:=zzm (hbox);have n2_:=zzm ((by rw [hg];exact (zzo zzh1):w.heap.size≤gb341));have n3_:=zzm ((by rw [hg];exact (zzo zzh1):w.heap.size≤gb341));clear HB;have HB:=n0_;have BK341:=n1_;have GW341:=n2_;have GE341:=n3_;clear n0_ n1_ n2_ n3_ hb hbox hg)|((with_reducible refine gate_dst (N:=6) rfl ?_);refine box_event ?hg (N:=6) ?hd (cs:=#[.int .i64 a2_0,.int .i64 a2_1,.bool true,.slice A2_3 l2_3.length c2_3,.bool false,.slice A2_5 l2_5.length c2_5]) (t:=30) ?hr ?_;(case hd=>rfl);(case hg=>rfl);(case hr=>first|(go_simp;done)|(go_simp;rfl));intro gb342 hg w22 hbox hb;have n0_:=zzm (zzh (g:=gb341) (o:=.cells #[.bool a1_0,.bool false,.int .i64 a1_2,.int .i64 a1_3,.int .i64 a1_4,.slice A1_5 l1_5.length c1_5] 34 (0,0)) (zzE BK341.out) hb);have n1_:=zzm (zzp zzh2 hb);have n2_:=zzm (hbox);have n3_:=zzm ((by rw [hg];exact (zzo zzh2):w.heap.size≤gb342));have n4_:=zzm ((by rw [hg];exact (zzo zzh2):w.heap.size≤gb342));have n5_:=zzm ((by rw [hg];exact Nat.ne_of_lt (blk_lt (g:=gb341) (o:=.cells #[.bool a1_0,.bool false,.int .i64 a1_2,.int .i64 a1_3,.int .i64 a1_4,.slice A1_5 l1_5.length c1_5] 34 (0,0)) (zzE BK341.out)):gb341≠gb342));have n6_:=zzm ((by rw [hg];exact Nat.ne_of_gt (blk_lt (g:=gb341) (o:=.cells #[.bool a1_0,.bool false,.int .i64 a1_2,.int .i64 a1_3,.int .i64 a1_4,.slice A1_5 l1_5.length c1_5] 34 (0,0)) (zzE BK341.out)):gb342≠gb341));clear BK341 HB;have BK341:=n0_;have HB:=n1_;have BK342:=n2_;have GW342:=n3_;have GE342:=n4_;have NB341_342:=n5_;have NB342_341:=n6_;clear n0_ n1_ n2_ n3_ n4_ n5_ n6_ hb hbox hg;have hnb23:=NB341_342.out;have hnc23:=NB342_341.out;obtain ⟨hcz24_0,hcz24_1,hcz24_2,hcz24_3,hcz24_4,hcz24_5,hfz24_0,hfz24_1,hfz24_2,hfz24_3,hfz24_4,hfz24_5⟩:=zzc6 BK341.out;obtain ⟨hcz25_0,hcz25_1,hcz25_2,hcz25_3,hcz25_4,hcz25_5,hfz25_0,hfz25_1,hfz25_2,hfz25_3,hfz25_4,hfz25_5⟩:=zzc6 BK342.out)|(go_at_call 73;(with_reducible refine (Qk.calls k _ _ l0 a2_0 a2_1 true _ _ l2_3 false _ _ l2_5 t344 _ ?side1 ?side2 ?side3 ?side4 ?side5 ?side6 A20.out).mono ?_);(case side1=>repeat (first|exact (Kd.C_below HR0.out HB.out)|(with_reducible refine Kd.C_alloc ?_ _)|(with_reducible refine Kd.C_drewN ?_ _)|(with_reducible refine Kd.C_drew ?_)));(case side2=>exact HC0.out);(case side3=>repeat (first|exact (Kd.C_below HR2_3.out HB.out)|(with_reducible refine Kd.C_alloc ?_ _)|(with_reducible refine Kd.C_drewN ?_ _)|(with_reducible refine Kd.C_drew ?_)));(case side4=>exact HC2_3.out);(case side5=>repeat (first|exact (Kd.C_below HR2_5.out HB.out)|(with_reducible refine Kd.C_alloc ?_ _)|(with_reducible refine Kd.C_drewN ?_ _)|(with_reducible refine Kd.C_drew ?_)));(case side6=>exact HC2_5.out);rintro e w26 ⟨rfl,hb⟩;have n0_:=zzm (zzh (g:=gb341) (o:=.cells #[.bool a1_0,.bool false,.int .i64 a1_2,.int .i64 a1_3,.int .i64 a1_4,.slice A1_5 l1_5.length c1_5] 34 (0,0)) (zzE BK341.out) hb);have n1_:=zzm (zzh (g:=gb342) (o:=.cells #[.int .i64 a2_0,.int .i64 a2_1,.bool true,.slice A2_3 l2_3.length c2_3,.bool false,.slice A2_5 l2_5.length c2_5] 30 (0,0)) (zzE BK342.out) hb);have n2_:=zzm (zzp zzh2 hb);clear BK341 BK342 HB;have BK341:=n0_;have BK342:=n1_;have HB:=n2_;clear n0_ n1_ n2_;(try clear hb);(try clear hb2);(try clear hk);(try clear hi)));go_ret;exact ⟨by first|rfl|(simp [errW_none,errW_some] <;> rfl)|(simp [*,errW_none,errW_some] <;> rfl),by repeat (first|(with_reducible first|exact HB.out|apply zza|apply zzb|apply zzc|refine zzd ?_ GE341.out|refine zzd ?_ GE342.out)|exact HB.out)⟩
    ·
     replace c19:=Bool.eq_false_iff.mpr c19;subst c19;have H1:(some false)=some r:=by rw [if_neg (show ¬ (false=true) by decide)] at H;exact H
     clear H;have H:=H1;clear H1;obtain rfl:=Option.some.inj H;go_enter Try.func44,Try.ntmps44;go_wp2_with (first|((with_reducible refine gate_dst (N:=5) rfl ?_);refine box_event ?hg (N:=5) ?hd (cs:=#[.bool a1_0,.bool false,.int .i64 a1_2,.int .i64 a1_3,.int .i64 a1_4,.slice A1_5 l1_5.length c1_5]) (t:=34) ?hr ?_;(case hd=>rfl);(case hg=>rfl);(case hr=>first|(go_simp;done)|(go_simp;rfl));intro gb341 hg w27 hbox hb;have n0_:=zzm (zzp zzh1 hb);have n1_:=zzm (hbox);have n2_:=zzm ((by rw [hg];exact (zzo zzh1):w.heap.size≤gb341));have n3_:=zzm ((by rw [hg];exact (zzo zzh1):w.heap.size≤gb341));clear HB;have HB:=n0_;have BK341:=n1_;have GW341:=n2_;have GE341:=n3_;clear n0_ n1_ n2_ n3_ hb hbox hg)|((with_reducible refine gate_dst (N:=6) rfl ?_);refine box_event ?hg (N:=6) ?hd (cs:=#[.int .i64 a2_0,.int .i64 a2_1,.bool true,.slice A2_3 l2_3.length c2_3,.bool false,.slice A2_5 l2_5.length c2_5]) (t:=30) ?hr ?_;(case hd=>rfl);(case hg=>rfl);(case hr=>first|(go_simp;done)|(go_simp;rfl));intro gb342 hg w28 hbox hb;have n0_:=zzm (zzh (g:=gb341) (o:=.cells #[.bool a1_0,.bool false,.int .i64 a1_2,.int .i64 a1_3,.int .i64 a1_4,.slice A1_5 l1_5.length c1_5] 34 (0,0)) (zzE BK341.out) hb);have n1_:=zzm (zzp zzh2 hb);have n2_:=zzm (hbox);have n3_:=zzm ((by rw [hg];exact (zzo zzh2):w.heap.size≤gb342));have n4_:=zzm ((by rw [hg];exact (zzo zzh2):w.heap.size≤gb342));have n5_:=zzm ((by rw [hg];exact Nat.ne_of_lt (blk_lt (g:=gb341) (o:=.cells #[.bool a1_0,.bool false,.int .i64 a1_2,.int .i64 a1_3,.int .i64 a1_4,.slice A1_5 l1_5.length c1_5] 34 (0,0)) (zzE BK341.out)):gb341≠gb342));have n6_:=zzm ((by rw [hg];exact Nat.ne_of_gt (blk_lt (g:=gb341) (o:=.cells #[.bool a1_0,.bool false,.int .i64 a1_2,.int .i64 a1_3,.int .i64 a1_4,.slice A1_5 l1_5.length c1_5] 34 (0,0)) (zzE BK341.out)):gb342≠gb341));clear BK341 HB;have BK341:=n0_;have HB:=n1_;have BK342:=n2_;have GW342:=n3_;have GE342:=n4_;have NB341_342:=n5_;have NB342_341:=n6_;clear n0_ n1_ n2_ n3_ n4_ n5_ n6_ hb hbox hg;have hnb29:=NB341_342.out;have hnc29:=NB342_341.out;obtain ⟨hcz30_0,hcz30_1,hcz30_2,hcz30_3,hcz30_4,hcz30_5,hfz30_0,hfz30_1,hfz30_2,hfz30_3,hfz30_4,hfz30_5⟩:=zzc6 BK341.out;obtain ⟨hcz31_0,hcz31_1,hcz31_2,hcz31_3,hcz31_4,hcz31_5,hfz31_0,hfz31_1,hfz31_2,hfz31_3,hfz31_4,hfz31_5⟩:=zzc6 BK342.out));go_ret;exact ⟨by first|rfl|(simp [errW_none,errW_some] <;> rfl)|(simp [*,errW_none,errW_some] <;> rfl),by repeat (first|(with_reducible first|exact HB.out|apply zza|apply zzb|apply zzc|refine zzd ?_ GE341.out|refine zzd ?_ GE342.out)|exact HB.out)⟩
  ·
   replace c10:=Bool.eq_false_iff.mpr c10;subst c10;have H1:(some false)=some r:=by rw [if_neg (show ¬ (false=true) by decide)] at H;exact H
   clear H;have H:=H1;clear H1;obtain rfl:=Option.some.inj H;go_enter Try.func44,Try.ntmps44;go_wp2_with (first|((with_reducible refine gate_dst (N:=5) rfl ?_);refine box_event ?hg (N:=5) ?hd (cs:=#[.bool a1_0,.bool false,.int .i64 a1_2,.int .i64 a1_3,.int .i64 a1_4,.slice A1_5 l1_5.length c1_5]) (t:=34) ?hr ?_;(case hd=>rfl);(case hg=>rfl);(case hr=>first|(go_simp;done)|(go_simp;rfl));intro gb341 hg w32 hbox hb;have n0_:=zzm (zzp zzh1 hb);have n1_:=zzm (hbox);have n2_:=zzm ((by rw [hg];exact (zzo zzh1):w.heap.size≤gb341));have n3_:=zzm ((by rw [hg];exact (zzo zzh1):w.heap.size≤gb341));clear HB;have HB:=n0_;have BK341:=n1_;have GW341:=n2_;have GE341:=n3_;clear n0_ n1_ n2_ n3_ hb hbox hg)|((with_reducible refine gate_dst (N:=6) rfl ?_);refine box_event ?hg (N:=6) ?hd (cs:=#[.int .i64 a2_0,.int .i64 a2_1,.bool false,.slice A2_3 l2_3.length c2_3,.bool a2_4,.slice A2_5 l2_5.length c2_5]) (t:=30) ?hr ?_;(case hd=>rfl);(case hg=>rfl);(case hr=>first|(go_simp;done)|(go_simp;rfl));intro gb342 hg w33 hbox hb;have n0_:=zzm (zzh (g:=gb341) (o:=.cells #[.bool a1_0,.bool false,.int .i64 a1_2,.int .i64 a1_3,.int .i64 a1_4,.slice A1_5 l1_5.length c1_5] 34 (0,0)) (zzE BK341.out) hb);have n1_:=zzm (zzp zzh2 hb);have n2_:=zzm (hbox);have n3_:=zzm ((by rw [hg];exact (zzo zzh2):w.heap.size≤gb342));have n4_:=zzm ((by rw [hg];exact (zzo zzh2):w.heap.size≤gb342));have n5_:=zzm ((by rw [hg];exact Nat.ne_of_lt (blk_lt (g:=gb341) (o:=.cells #[.bool a1_0,.bool false,.int .i64 a1_2,.int .i64 a1_3,.int .i64 a1_4,.slice A1_5 l1_5.length c1_5] 34 (0,0)) (zzE BK341.out)):gb341≠gb342));have n6_:=zzm ((by rw [hg];exact Nat.ne_of_gt (blk_lt (g:=gb341) (o:=.cells #[.bool a1_0,.bool false,.int .i64 a1_2,.int .i64 a1_3,.int .i64 a1_4,.slice A1_5 l1_5.length c1_5] 34 (0,0)) (zzE BK341.out)):gb342≠gb341));clear BK341 HB;have BK341:=n0_;have HB:=n1_;have BK342:=n2_;have GW342:=n3_;have GE342:=n4_;have NB341_342:=n5_;have NB342_341:=n6_;clear n0_ n1_ n2_ n3_ n4_ n5_ n6_ hb hbox hg;have hnb34:=NB341_342.out;have hnc34:=NB342_341.out;obtain ⟨hcz35_0,hcz35_1,hcz35_2,hcz35_3,hcz35_4,hcz35_5,hfz35_0,hfz35_1,hfz35_2,hfz35_3,hfz35_4,hfz35_5⟩:=zzc6 BK341.out;obtain ⟨hcz36_0,hcz36_1,hcz36_2,hcz36_3,hcz36_4,hcz36_5,hfz36_0,hfz36_1,hfz36_2,hfz36_3,hfz36_4,hfz36_5⟩:=zzc6 BK342.out));go_ret;exact ⟨by first|rfl|(simp [errW_none,errW_some] <;> rfl)|(simp [*,errW_none,errW_some] <;> rfl),by repeat (first|(with_reducible first|exact HB.out|apply zza|apply zzb|apply zzc|refine zzd ?_ GE341.out|refine zzd ?_ GE342.out)|exact HB.out)⟩
def Q9.f (a0_0:Int) (a0_1:Int) (a0_2:Bool) (l0_3:List Int) (a0_4:Bool) (l0_5:List Int):Option (Int×Int×Bool×List Int×Bool×List Int):=(some (([]:List Int):List Int)).bind fun y347=>(if y347.length+l0_3.length < 17592186044416 then ((some (([]:List Int):List Int)).bind fun y353=>(if y353.length+l0_5.length < 17592186044416 then (some (a0_0,a0_1,a0_2,(y347++l0_3),a0_4,(y353++l0_5))) else (none))) else (none))
set_option maxHeartbeats 8000000 in
set_option maxRecDepth 100000 in
theorem Q9.calls (a0_0:Int) (a0_1:Int) (a0_2:Bool) (A0_3:Option Addr) (c0_3:Nat) (l0_3:List Int) (a0_4:Bool) (A0_5:Option Addr) (c0_5:Nat) (l0_5:List Int) (r1:Int) (r2:Int) (r3:Bool) (r4:List Int) (r5:Bool) (r6:List Int) (w:World) (hr0_3:Kd.C (Kd.int .i64) w A0_3 l0_3.length l0_3) (hc0_3:l0_3.length≤c0_3) (hr0_5:Kd.C (Kd.int .i64) w A0_5 l0_5.length l0_5) (hc0_5:l0_5.length≤c0_5) (h:Q9.f a0_0 a0_1 a0_2 l0_3 a0_4 l0_5=some (r1,r2,r3,r4,r5,r6)) :
  Calls Try.prog 45 #[.agg #[.int .i64 a0_0,.int .i64 a0_1,.bool a0_2,.slice A0_3 l0_3.length c0_3,.bool a0_4,.slice A0_5 l0_5.length c0_5]] w fun e w'=>∃ v3_ v5_:Value,e = .returned (.agg #[.int .i64 r1,.int .i64 r2,.bool r3,v3_,.bool r5,v5_])∧Kd.R (Kd.int .i64) 3 w' w.heap.size (fun k_=>some k_≠(v5_:Value).ownBlock) v3_ r4∧Kd.R (Kd.int .i64) 3 w' w.heap.size (fun k_=>some k_≠(v3_:Value).ownBlock) v5_ r6∧Below w.heap.size w w':=by
 have hu30:=Try.underlying30;have HR0_3:=zzm hr0_3;have HC0_3:=zzm hc0_3;clear hr0_3 hc0_3;have HR0_5:=zzm hr0_5;have HC0_5:=zzm hc0_5;clear hr0_5 hc0_5;have HB:=zzm (Below.refl w.heap.size w);have H:((some (([]:List Int):List Int)).bind fun y347=>(if y347.length+l0_3.length < 17592186044416 then ((some (([]:List Int):List Int)).bind fun y353=>(if y353.length+l0_5.length < 17592186044416 then (some (a0_0,a0_1,a0_2,(y347++l0_3),a0_4,(y353++l0_5))) else (none))) else (none)))=some (r1,r2,r3,r4,r5,r6):=h;clear h;obtain ⟨y347,hy347⟩:∃ y_:List Int,y_=(([]:List Int)):=⟨_,rfl⟩;replace H:(if y347.length+l0_3.length < 17592186044416 then ((some (([]:List Int):List Int)).bind fun y353=>(if y353.length+l0_5.length < 17592186044416 then (some (a0_0,a0_1,a0_2,(y347++l0_3),a0_4,(y353++l0_5))) else (none))) else (none))=some (r1,r2,r3,r4,r5,r6):=by first|(rw [hy347];with_reducible exact H)|(have H2_:=(Option.bind_some _ _).symm.trans H;rw [hy347];with_reducible exact H2_)|(have H2_:=(Option.bind_some _ _).symm.trans H;with_reducible exact H2_)|with_reducible exact H|(rw [hy347];exact H)|exact H
 have Ny347:=zzm hy347;clear hy347;by_cases c2:y347.length+l0_3.length < 17592186044416
 ·
  rw [if_pos c2] at H;have LMc2:=zzm c2;clear c2;obtain ⟨y350,hy350⟩:∃ y_:List Int,y_=(y347++l0_3):=⟨_,rfl⟩;replace H:((some (([]:List Int):List Int)).bind fun y353=>(if y353.length+l0_5.length < 17592186044416 then (some (a0_0,a0_1,a0_2,y350,a0_4,(y353++l0_5))) else (none)))=some (r1,r2,r3,r4,r5,r6):=by first|(rw [hy350];with_reducible exact H)|(have H2_:=(Option.bind_some _ _).symm.trans H;rw [hy350];with_reducible exact H2_)|(have H2_:=(Option.bind_some _ _).symm.trans H;with_reducible exact H2_)|with_reducible exact H|(rw [hy350];exact H)|exact H
  have Ny350:=zzm hy350;clear hy350;obtain ⟨y353,hy353⟩:∃ y_:List Int,y_=(([]:List Int)):=⟨_,rfl⟩;replace H:(if y353.length+l0_5.length < 17592186044416 then (some (a0_0,a0_1,a0_2,y350,a0_4,(y353++l0_5))) else (none))=some (r1,r2,r3,r4,r5,r6):=by first|(rw [hy353];with_reducible exact H)|(have H2_:=(Option.bind_some _ _).symm.trans H;rw [hy353];with_reducible exact H2_)|(have H2_:=(Option.bind_some _ _).symm.trans H;with_reducible exact H2_)|with_reducible exact H|(rw [hy353];exact H)|exact H
  have Ny353:=zzm hy353;clear hy353;by_cases c3:y353.length+l0_5.length < 17592186044416
  ·
   rw [if_pos c3] at H;have LMc3:=zzm c3;clear c3;obtain ⟨y356,hy356⟩:∃ y_:List Int,y_=(y353++l0_5):=⟨_,rfl⟩;replace H:(some (a0_0,a0_1,a0_2,y350,a0_4,y356))=some (r1,r2,r3,r4,r5,r6):=by first|(rw [hy356];with_reducible exact H)|(have H2_:=(Option.bind_some _ _).symm.trans H;rw [hy356];with_reducible exact H2_)|(have H2_:=(Option.bind_some _ _).symm.trans H;with_reducible exact H2_)|with_reducible exact H|(rw [hy356];exact H)|exact H
   have Ny356:=zzm hy356;clear hy356;simp only [Option.some.injEq,Prod.mk.injEq] at H;obtain ⟨rfl,rfl,rfl,rfl,rfl,rfl⟩:=H;go_enter Try.func45,Try.ntmps45;go_wp2_with (first|((with_reducible refine gate_dst (N:=1) rfl ?_);refine box_event ?hg (N:=1) ?hd (cs:=#[.int .i64 a0_0,.int .i64 a0_1,.bool a0_2,.slice A0_3 l0_3.length c0_3,.bool a0_4,.slice A0_5 l0_5.length c0_5]) (t:=30) ?hr ?_;(case hd=>rfl);(case hg=>rfl);(case hr=>first|(go_simp;done)|(go_simp;rfl));intro gb345 hg w4 hbox hb;have n0_:=zzm (zzp zzh1 hb);have n1_:=zzm (hbox);have n2_:=zzm ((by rw [hg];exact (zzo zzh1):w.heap.size≤gb345));have n3_:=zzm ((by rw [hg];exact (zzo zzh1):w.heap.size≤gb345));clear HB;have HB:=n0_;have BK345:=n1_;have GW345:=n2_;have GE345:=n3_;clear n0_ n1_ n2_ n3_ hb hbox hg)|((with_reducible refine gate_dst (N:=2) rfl ?_);refine box_event ?hg (N:=2) ?hd (cs:=#[.int .i64 0,.int .i64 0,.bool false,.slice none 0 0,.bool false,.slice none 0 0]) (t:=30) ?hr ?_;(case hd=>rfl);(case hg=>rfl);(case hr=>first|(go_simp;done)|(go_simp;rfl));intro gb346 hg w5 hbox hb;have n0_:=zzm (zzh (g:=gb345) (o:=.cells #[.int .i64 a0_0,.int .i64 a0_1,.bool a0_2,.slice A0_3 l0_3.length c0_3,.bool a0_4,.slice A0_5 l0_5.length c0_5] 30 (0,0)) (zzE BK345.out) hb);have n1_:=zzm (zzp zzh2 hb);have n2_:=zzm (hbox);have n3_:=zzm ((by rw [hg];exact (zzo zzh2):w.heap.size≤gb346));have n4_:=zzm ((by rw [hg];exact (zzo zzh2):w.heap.size≤gb346));have n5_:=zzm ((by rw [hg];exact Nat.ne_of_lt (blk_lt (g:=gb345) (o:=.cells #[.int .i64 a0_0,.int .i64 a0_1,.bool a0_2,.slice A0_3 l0_3.length c0_3,.bool a0_4,.slice A0_5 l0_5.length c0_5] 30 (0,0)) (zzE BK345.out)):gb345≠gb346));have n6_:=zzm ((by rw [hg];exact Nat.ne_of_gt (blk_lt (g:=gb345) (o:=.cells #[.int .i64 a0_0,.int .i64 a0_1,.bool a0_2,.slice A0_3 l0_3.length c0_3,.bool a0_4,.slice A0_5 l0_5.length c0_5] 30 (0,0)) (zzE BK345.out)):gb346≠gb345));clear BK345 HB;have BK345:=n0_;have HB:=n1_;have BK346:=n2_;have GW346:=n3_;have GE346:=n4_;have NB345_346:=n5_;have NB346_345:=n6_;clear n0_ n1_ n2_ n3_ n4_ n5_ n6_ hb hbox hg)|((with_reducible refine gate_dst (N:=3) rfl ?_);refine Kd.R_lit (Kd.int .i64) _ 3 ?hg (N:=3) ?hd (xs:=([]:List Int)) (inner:=[]) (ok:=fun _=>True) (okp:=fun _=>True) ?hr ?hp (fun _ hk=>hk) trivial (Below.refl _ _) (Nat.le_refl _) (by simp) ?_;(case hd=>rfl);(case hg=>rfl);(case hr=>first|(go_simp;done)|(go_simp;rfl));(case hp=>exact (Reps.none _ _));intro v348 w6 ho7 hb hg_ hnew_;clear hg_ hnew_;(first|rw [← Ny347.out] at ho7|(simp only [Int.reduceToNat] at ho7;rw [← Ny347.out] at ho7));have n0_:=zzm (Kd.R_lower ho7 (zzo zzh2));have n1_:=zzm (zzh (g:=gb345) (o:=.cells #[.int .i64 a0_0,.int .i64 a0_1,.bool a0_2,.slice A0_3 l0_3.length c0_3,.bool a0_4,.slice A0_5 l0_5.length c0_5] 30 (0,0)) (zzE BK345.out) hb);have n2_:=zzm (zzh (g:=gb346) (o:=.cells #[.int .i64 0,.int .i64 0,.bool false,.slice none 0 0,.bool false,.slice none 0 0] 30 (0,0)) (zzE BK346.out) hb);have n3_:=zzm (zzp zzh2 hb);clear BK345 BK346 HB;have HO349:=n0_;have BK345:=n1_;have BK346:=n2_;have HB:=n3_;clear n0_ n1_ n2_ n3_ hb ho7;have hnb8:=NB345_346.out;have hnc8:=NB346_345.out;obtain ⟨hcz9_0,hcz9_1,hcz9_2,hcz9_3,hcz9_4,hcz9_5,hfz9_0,hfz9_1,hfz9_2,hfz9_3,hfz9_4,hfz9_5⟩:=zzc6 BK345.out)|((with_reducible refine gate_builtin (b:=.append) (xs:=#[.tmp 3,.tmp 5]) rfl ?_);at_builtin;refine Kd.R_append_rows (Kd.int .i64) (w0:=w) w.heap.size rfl (.tmp 3) (.tmp 5) 28 3 (.int .i64 0) 8 rfl Try.underlying28 info3 rfl (by decide) (by omega) v348 y347 l0_3 _ _ _ (fun _=>True) (fun _=>False) rfl rfl ?aO ?aR (fun _ _ h=>h) (fun _ h=>h.elim) ?aF ?aB ?aS ?aL ?_;(case aR=>repeat (first|exact (Kd.C_below HR0_3.out HB.out)|(with_reducible refine Kd.C_alloc ?_ _)|(with_reducible refine Kd.C_drewN ?_ _)|(with_reducible refine Kd.C_drew ?_)));(case aB=>exact zzh2);(case aF=>exact (fun _ _=>trivial));(case aO=>exact (by (with_reducible repeat (first|apply Kd.R_alloc|apply Kd.R_drewN|apply Kd.R_drew));exact HO349.out));(case aS=>exact (zzo zzh2));(case aL=>have:=LMc2.out;omega);intro v351 w10 ho hb hg hat;rw [← Ny350.out] at ho;have n0_:=zzm (blk_grown (g:=gb345) (o:=.cells #[.int .i64 a0_0,.int .i64 a0_1,.bool a0_2,.slice A0_3 l0_3.length c0_3,.bool a0_4,.slice A0_5 l0_5.length c0_5] 30 (0,0)) (zzE BK345.out) hg (Kd.R_ne HO349.out BK345.out (by decide)));have n1_:=zzm (blk_grown (g:=gb346) (o:=.cells #[.int .i64 0,.int .i64 0,.bool false,.slice none 0 0,.bool false,.slice none 0 0] 30 (0,0)) (zzE BK346.out) hg (Kd.R_ne HO349.out BK346.out (by decide)));have n2_:=zzm (hb);have n3_:=zzm (ho);clear BK345 BK346 HB HO349;have BK345:=n0_;have BK346:=n1_;have HB:=n2_;have HO352:=n3_;clear n0_ n1_ n2_ n3_ ho hb hg hat;obtain ⟨Ao11,co11,eo11⟩:=Kd.R_slice HO352.out;subst eo11;obtain ⟨hcz12_0,hcz12_1,hcz12_2,hcz12_3,hcz12_4,hcz12_5,hfz12_0,hfz12_1,hfz12_2,hfz12_3,hfz12_4,hfz12_5⟩:=zzc6 BK345.out)|((with_reducible refine gate_dst (N:=8) rfl ?_);refine Kd.R_lit (Kd.int .i64) _ 3 ?hg (N:=8) ?hd (xs:=([]:List Int)) (inner:=[]) (ok:=fun _=>True) (okp:=fun _=>True) ?hr ?hp (fun _ hk=>hk) trivial (Below.refl _ _) (Nat.le_refl _) (by simp) ?_;(case hd=>rfl);(case hg=>rfl);(case hr=>first|(go_simp;done)|(go_simp;rfl));(case hp=>exact (Reps.none _ _));intro v354 w13 ho14 hb hg_ hnew_;clear hg_ hnew_;(first|rw [← Ny353.out] at ho14|(simp only [Int.reduceToNat] at ho14;rw [← Ny353.out] at ho14));have n0_:=zzm (Kd.R_elder' (by (with_reducible repeat (first|apply Kd.R_alloc|apply Kd.R_drewN|apply Kd.R_drew));exact (Kd.R_mono (Kd.R_far (p:=⟨gb345,3,none⟩) (Kd.R_types HO352.out BK345.out (by decide)) (fun _ hk=>hk.2) (.slice Ao11 y350.length co11)) (fun _ h_=>h_.1))) (Kd.R_base ho14) hb);have n1_:=zzm (Kd.R_lower (Kd.R_new' ho14 (Kd.R_lt (by (with_reducible repeat (first|apply Kd.R_alloc|apply Kd.R_drewN|apply Kd.R_drew));exact (Kd.R_mono (Kd.R_far (p:=⟨gb345,3,none⟩) (Kd.R_types HO352.out BK345.out (by decide)) (fun _ hk=>hk.2) (.slice Ao11 y350.length co11)) (fun _ h_=>h_.1))))) (zzo zzh2));have n2_:=zzm (zzh (g:=gb345) (o:=.cells #[.int .i64 a0_0,.int .i64 a0_1,.bool a0_2,.slice Ao11 y350.length co11,.bool a0_4,.slice A0_5 l0_5.length c0_5] 30 (0,0)) (by (with_reducible repeat (first|apply zzf|apply zzg|apply zze));refine zzi (cs:=#[.int .i64 a0_0,.int .i64 a0_1,.bool a0_2,.slice A0_3 l0_3.length c0_3,.bool a0_4,.slice A0_5 l0_5.length c0_5]) ?_ 3 _ rfl;(with_reducible repeat (first|apply zzf|apply zzg|apply zze));exact BK345.out) hb);have n3_:=zzm (zzh (g:=gb346) (o:=.cells #[.int .i64 0,.int .i64 0,.bool false,.slice none 0 0,.bool false,.slice none 0 0] 30 (0,0)) (by (with_reducible repeat (first|apply zzf|apply zzg|apply zze));refine zzj ?_ NB346_345.out _;(with_reducible repeat (first|apply zzf|apply zzg|apply zze));exact BK346.out) hb);have n4_:=zzm (zzp zzh2 hb);clear HO352 BK345 BK346 HB;have HO352:=n0_;have HO355:=n1_;have BK345:=n2_;have BK346:=n3_;have HB:=n4_;clear n0_ n1_ n2_ n3_ n4_ hb ho14;obtain ⟨hcz15_0,hcz15_1,hcz15_2,hcz15_3,hcz15_4,hcz15_5,hfz15_0,hfz15_1,hfz15_2,hfz15_3,hfz15_4,hfz15_5⟩:=zzc6 BK345.out)|((with_reducible refine gate_builtin (b:=.append) (xs:=#[.tmp 8,.tmp 10]) rfl ?_);at_builtin;refine Kd.R_append_rows (Kd.int .i64) (w0:=w) w.heap.size rfl (.tmp 8) (.tmp 10) 28 3 (.int .i64 0) 8 rfl Try.underlying28 info3 rfl (by decide) (by omega) v354 y353 l0_5 _ _ _ (fun k_=>some k_≠(.slice Ao11 y350.length co11:Value).ownBlock) (fun _=>False) rfl rfl ?aO ?aR (fun _ _ h=>h) (fun _ h=>h.elim) ?aF ?aB ?aS ?aL ?_;(case aR=>repeat (first|exact (Kd.C_below HR0_5.out HB.out)|(with_reducible refine Kd.C_alloc ?_ _)|(with_reducible refine Kd.C_drewN ?_ _)|(with_reducible refine Kd.C_drew ?_)));(case aB=>exact zzh2);(case aF=>exact (fun k_ hk=>Kd.fresh' (Kd.R_lt (by (with_reducible repeat (first|apply Kd.R_alloc|apply Kd.R_drewN|apply Kd.R_drew));exact HO352.out)) k_ hk));(case aO=>exact (by (with_reducible repeat (first|apply Kd.R_alloc|apply Kd.R_drewN|apply Kd.R_drew));exact Kd.R_mono HO355.out (fun _ hk=>hk.2)));(case aS=>exact (zzo zzh2));(case aL=>have:=LMc3.out;omega);intro v357 w16 ho hb hg hat;rw [← Ny356.out] at ho;have n0_:=zzm (blk_grown (g:=gb345) (o:=.cells #[.int .i64 a0_0,.int .i64 a0_1,.bool a0_2,.slice Ao11 y350.length co11,.bool a0_4,.slice A0_5 l0_5.length c0_5] 30 (0,0)) (zzE BK345.out) hg (Kd.R_ne HO355.out BK345.out (by decide)));have n1_:=zzm (blk_grown (g:=gb346) (o:=.cells #[.int .i64 0,.int .i64 0,.bool false,.slice none 0 0,.bool false,.slice none 0 0] 30 (0,0)) (zzE BK346.out) hg (Kd.R_ne HO355.out BK346.out (by decide)));have n2_:=zzm (Kd.R_after (ok:=(fun _=>True)) (by (with_reducible repeat (first|apply Kd.R_alloc|apply Kd.R_drewN|apply Kd.R_drew));exact HO352.out) hg hat);have n3_:=zzm (hb);have n4_:=zzm (ho);clear BK345 BK346 HO352 HB HO355;have BK345:=n0_;have BK346:=n1_;have HO352:=n2_;have HB:=n3_;have HO358:=n4_;clear n0_ n1_ n2_ n3_ n4_ ho hb hg hat;obtain ⟨Ao17,co17,eo17⟩:=Kd.R_slice HO358.out;subst eo17;obtain ⟨hcz18_0,hcz18_1,hcz18_2,hcz18_3,hcz18_4,hcz18_5,hfz18_0,hfz18_1,hfz18_2,hfz18_3,hfz18_4,hfz18_5⟩:=zzc6 BK345.out;obtain ⟨hcz19_0,hcz19_1,hcz19_2,hcz19_3,hcz19_4,hcz19_5,hfz19_0,hfz19_1,hfz19_2,hfz19_3,hfz19_4,hfz19_5⟩:=zzc6 BK346.out));refine bodyPost_ret (results_cell_row rfl _ _ gb346 30 #[.int .i64 a0_0,.int .i64 a0_1,.bool a0_2,.slice Ao11 y350.length co11,.bool a0_4,.slice Ao17 y356.length co17] (0,0) _ rfl (by (with_reducible repeat (first|apply zzf|apply zzg|apply zze));refine zzi (cs:=#[.int .i64 a0_0,.int .i64 a0_1,.bool a0_2,.slice Ao11 y350.length co11,.bool a0_4,.slice none 0 0]) ?_ 5 _ rfl;(with_reducible repeat (first|apply zzf|apply zzg|apply zze));refine zzi (cs:=#[.int .i64 a0_0,.int .i64 a0_1,.bool a0_2,.slice Ao11 y350.length co11,.bool false,.slice none 0 0]) ?_ 4 _ rfl;(with_reducible repeat (first|apply zzf|apply zzg|apply zze));refine zzi (cs:=#[.int .i64 a0_0,.int .i64 a0_1,.bool a0_2,.slice none 0 0,.bool false,.slice none 0 0]) ?_ 3 _ rfl;(with_reducible repeat (first|apply zzf|apply zzg|apply zze));refine zzi (cs:=#[.int .i64 a0_0,.int .i64 a0_1,.bool false,.slice none 0 0,.bool false,.slice none 0 0]) ?_ 2 _ rfl;(with_reducible repeat (first|apply zzf|apply zzg|apply zze));refine zzi (cs:=#[.int .i64 a0_0,.int .i64 0,.bool false,.slice none 0 0,.bool false,.slice none 0 0]) ?_ 1 _ rfl;(with_reducible repeat (first|apply zzf|apply zzg|apply zze));refine zzi (cs:=#[.int .i64 0,.int .i64 0,.bool false,.slice none 0 0,.bool false,.slice none 0 0]) ?_ 0 _ rfl;(with_reducible repeat (first|apply zzf|apply zzg|apply zze));refine zzj ?_ NB346_345.out _;(with_reducible repeat (first|apply zzf|apply zzg|apply zze));exact BK346.out) Try.underlying30 rfl (by kernel_rfl)) rfl ?_;exact ⟨_,_,by first|rfl|(simp [errW_none,errW_some] <;> rfl)|(simp [*,errW_none,errW_some] <;> rfl),by (with_reducible repeat (first|apply Kd.R_alloc|apply Kd.R_drewN|apply Kd.R_drew));exact Kd.R_mono (Kd.R_far (p:=⟨gb346,5,none⟩) (Kd.R_far (p:=⟨gb346,4,none⟩) (Kd.R_far (p:=⟨gb346,3,none⟩) (Kd.R_far (p:=⟨gb346,2,none⟩) (Kd.R_far (p:=⟨gb346,1,none⟩) (Kd.R_far (p:=⟨gb346,0,none⟩) (Kd.R_far (p:=⟨gb345,5,none⟩) (Kd.R_types (Kd.R_types HO352.out BK345.out (by decide)) BK346.out (by decide)) (fun _ hk=>hk.1.2) (.slice Ao17 y356.length co17)) (fun _ hk=>hk.2) (.int .i64 a0_0)) (fun _ hk=>hk.2) (.int .i64 a0_1)) (fun _ hk=>hk.2) (.bool a0_2)) (fun _ hk=>hk.2) (.slice Ao11 y350.length co11)) (fun _ hk=>hk.2) (.bool a0_4)) (fun _ hk=>hk.2) (.slice Ao17 y356.length co17)) (fun _ hk=>hk.1.1.2),by (with_reducible repeat (first|apply Kd.R_alloc|apply Kd.R_drewN|apply Kd.R_drew));exact Kd.R_mono (Kd.R_far (p:=⟨gb346,5,none⟩) (Kd.R_far (p:=⟨gb346,4,none⟩) (Kd.R_far (p:=⟨gb346,3,none⟩) (Kd.R_far (p:=⟨gb346,2,none⟩) (Kd.R_far (p:=⟨gb346,1,none⟩) (Kd.R_far (p:=⟨gb346,0,none⟩) (Kd.R_far (p:=⟨gb345,5,none⟩) (Kd.R_types (Kd.R_types HO358.out BK345.out (by decide)) BK346.out (by decide)) (fun _ hk=>hk.1.2) (.slice Ao17 y356.length co17)) (fun _ hk=>hk.2) (.int .i64 a0_0)) (fun _ hk=>hk.2) (.int .i64 a0_1)) (fun _ hk=>hk.2) (.bool a0_2)) (fun _ hk=>hk.2) (.slice Ao11 y350.length co11)) (fun _ hk=>hk.2) (.bool a0_4)) (fun _ hk=>hk.2) (.slice Ao17 y356.length co17)) (fun _ hk=>hk.1.1),by repeat (first|(with_reducible first|exact HB.out|apply zza|apply zzb|apply zzc|refine zzd ?_ GE345.out|refine zzd ?_ GE346.out)|exact HB.out)⟩
  ·
   rw [if_neg c3] at H;exact absurd H (by simp)
 ·
  rw [if_neg c2] at H;exact absurd H (by simp)
mutual
def Qf.l0:Nat→List (S34)→List (S30)→Int→Option ((List (S30)))
 | 0,_,_,_=>none
 | k+1,x0,x3,x4=>if x4 < (x0.length:Int) then ((Qo.f k x0).bind fun t362=>(Qf.j1 k x0 x3 x4 t362)) else (Qf.j1 k x0 x3 x4 false)
def Qf.j1:Nat→List (S34)→List (S30)→Int→Bool→Option ((List (S30)))
 | 0,_,_,_,_=>none
 | k+1,x0,x3,x4,x14=>if x14=true then (Qf.l1 k x0 x3 x4 0) else (some x3)
def Qf.l1:Nat→List (S34)→List (S30)→Int→Int→Option ((List (S30)))
 | 0,_,_,_,_=>none
 | k+1,x0,x3,x4,x5=>if 0≤x4 then (if x4 < (x0.length:Int) then (if x5 < (((Qa x0 x4).f5).length:Int) then (if ((Qa x0 x4).f1=true) then (Qf.l1 k x0 x3 x4 (wrap64 (x5+1))) else (if 0≤x5 then ((Rd.f k x0 ((Qa x0 x4).f0) ((Qa x0 x4).f1) ((Qa x0 x4).f2) ((Qa x0 x4).f3) ((Qa x0 x4).f4) ((Qa x0 x4).f5) ((Qb ((Qa x0 x4).f5) x5).f0) ((Qb ((Qa x0 x4).f5) x5).f1) ((Qb ((Qa x0 x4).f5) x5).f2) ((Qb ((Qa x0 x4).f5) x5).f3) ((Qb ((Qa x0 x4).f5) x5).f4) ((Qb ((Qa x0 x4).f5) x5).f5) false).bind fun t368=>(if t368=true then ((Q9.f ((Qb ((Qa x0 x4).f5) x5).f0) ((Qb ((Qa x0 x4).f5) x5).f1) ((Qb ((Qa x0 x4).f5) x5).f2) ((Qb ((Qa x0 x4).f5) x5).f3) ((Qb ((Qa x0 x4).f5) x5).f4) ((Qb ((Qa x0 x4).f5) x5).f5)).bind fun bt371=>(if x3.length < 1759218604441 then (Qf.l1 k x0 (x3 ++ [(⟨bt371.1,bt371.2.1,bt371.2.2.1,bt371.2.2.2.1,bt371.2.2.2.2.1,bt371.2.2.2.2.2⟩:S30)]) x4 (wrap64 (x5+1))) else (none))) else (Qf.l1 k x0 x3 x4 (wrap64 (x5+1))))) else (none))) else (Qf.l0 k x0 x3 (wrap64 (x4+1)))) else (none)) else (none)
end
def Qf.f (k:Nat) (l0:List (S34)):Option ((List (S30))):=Qf.l0 k l0 (([]:List (S30))) 0
def Qf.T8:Bool×List (List Nat×List Nat):=(true,[([],[]),([],[]),([0,1],[0,1]),([2],[2]),([3],[3]),([4],[4]),([5],[5]),([6],[6]),([6],[6]),([6],[6]),([8,9,6],[6,8,9]),([10,6],[6,10]),([6],[6]),([6],[6]),([12,13,6],[6,12,13]),([14,6],[6,14]),([15,6],[6,15]),([6],[6]),([16,17,6],[6,16,17]),([18,6],[6,18]),([7,11,19,6,6],[6,7,11,19]),([6,20],[6,20])])
def Qf.B8:List Nat:=[0,0,3,7,15,31,63,127,127,127,895,1919,127,127,12415,28799,61567,127,258175,520319,1048575,2097151]
theorem Qf.tab8:rtab .any (opsOf Try.f17 8)=Qf.T8:=by kernel_rfl
theorem Qf.bits8:waitsOk Qf.T8.2 Qf.B8=true:=by kernel_rfl
set_option maxHeartbeats 8000000 in
set_option maxRecDepth 100000 in
theorem Qf.calls (k:Nat) (A0:Option Addr) (c0:Nat) (l0:List (S34)) (r:List (S30)) (w:World) (hr0:Kd.C k34 w A0 l0.length l0) (hc0:l0.length≤c0) (h:Qf.f k l0=some r) :
  Calls Try.prog 17 #[.slice A0 l0.length c0] w fun e w'=>∃ v0_:Value,e = .returned (v0_)∧Kd.S k30 30 w' w.heap.size (fun _=>True) v0_ r∧Below w.heap.size w w':=by
 have hu34:=Try.underlying34;have hu30:=Try.underlying30;have HR0:=zzm hr0;have HC0:=zzm hc0;clear hr0 hc0;have HB:=zzm (Below.refl w.heap.size w);have H:(Qf.l0 k l0 (([]:List (S30))) 0)=some r:=h;clear h;obtain ⟨y359,hy359⟩:∃ y_:List (S30),y_=(([]:List (S30))):=⟨_,rfl⟩;replace H:(Qf.l0 k l0 y359 0)=some r:=by first|(rw [hy359];with_reducible exact H)|(have H2_:=(Option.bind_some _ _).symm.trans H;rw [hy359];with_reducible exact H2_)|(have H2_:=(Option.bind_some _ _).symm.trans H;with_reducible exact H2_)|with_reducible exact H|(rw [hy359];exact H)|exact H
 have Ny359:=zzm hy359;clear hy359;have H':=zzm H;clear H;go_enter Try.func17,Try.ntmps17;go_wp2_with (first|((with_reducible refine gate_dst (N:=6) rfl ?_);refine Kd.S_lit k30 _ 30 ?hg (N:=6) ?hd (xs:=([]:List (S30))) (inner:=[]) (ok:=fun _=>True) (okp:=fun _=>True) ?hr ?hp (fun _ hk=>hk) trivial (Below.refl _ _) (Nat.le_refl _) (by simp) ?_;(case hd=>rfl);(case hg=>rfl);(case hr=>first|(go_simp;done)|(go_simp;rfl));(case hp=>exact (Reps.none _ _));intro v360 w2 ho3 hb hg_ hnew_;clear hg_ hnew_;(first|rw [← Ny359.out] at ho3|(simp only [Int.reduceToNat] at ho3;rw [← Ny359.out] at ho3));have n0_:=zzm (Kd.S_lower ho3 (zzo zzh1));have n1_:=zzm (zzp zzh1 hb);clear HB;have HO361:=n0_;have HB:=n1_;clear n0_ n1_ hb ho3));go_loopg [3,4] k (fun kq v3 v4 w'=>∃ (x3_1:List (S30)) (x4_1:Int),v4 = .int .i64 x4_1∧Aside0 (Qf.l0 kq l0 x3_1 x4_1=some r)∧Aside0 (kq≤k)∧Aside0 (Kd.S k30 30 w' w.heap.size (fun _=>True) v3 x3_1)∧Aside0 (Below w.heap.size w w'))
 case atStart=>exact ⟨(y359),(0),(by first|rfl|(simp;done)|(simp [*];done)),H',⟨Nat.le_refl _⟩,⟨by (with_reducible repeat (first|apply Kd.S_alloc|apply Kd.S_drewN|apply Kd.S_drew));exact HO361.out⟩,⟨zzh1⟩⟩
 case round=>
  clear H';try clear c1
  try clear p2
  obtain ⟨x3_1,x4_1,rfl,HA,HK1,HO_3,HB⟩:=hrel;cases gk with
  | zero=>exact absurd HA.out (by simp [Qf.l0])
  | succ k1=>
   have H:=HA.out;clear HA;simp only [Qf.l0] at H;have HC4:=zzm H;clear H;go_upto_region 3 with (fail);go_cut [14] (fun v14 wc=>∃ (kq:Nat) (x14_3:Bool),v14 = .bool x14_3∧Aside0 (Qf.j1 kq l0 x3_1 x4_1 x14_3=some r)∧Aside0 (kq≤k1)∧Aside0 (Kd.S k30 30 wc w.heap.size (fun _=>True) u3 x3_1)∧Aside0 (Below w.heap.size w wc))
   case first=>
    have H:=HC4.out;clear HC4;by_cases c5:x4_1 < (l0.length:Int)
    ·
     rw [if_pos c5] at H;have c5b0:decide (x4_1 < (l0.length:Int))=true:=decide_eq_true c5;clear c5
     (first|rw [c5b0]|(simp only [i64_w,i32_w];rw [c5b0])|skip);replace H:=Option.bind_eq_some_iff.mp H;obtain ⟨t362,A60,H⟩:=H;replace H:(Qf.j1 k1 l0 x3_1 x4_1 t362)=some r:=H;have A6:=zzm A60;clear A60;have H':=zzm H;clear H;go_wp2_with (first|(go_at_call 43;(with_reducible refine (Qo.calls k1 _ _ l0 t362 _ ?side1 ?side2 A6.out).mono ?_);(case side1=>repeat (first|exact (Kd.C_below HR0.out HB.out)|(with_reducible refine Kd.C_alloc ?_ _)|(with_reducible refine Kd.C_drewN ?_ _)|(with_reducible refine Kd.C_drew ?_)));(case side2=>exact HC0.out);rintro e w7 ⟨rfl,hb⟩;have n0_:=zzm (Kd.S_below (zzS HO_3.out) hb);have n1_:=zzm (zzp zzh1 hb);clear HO_3 HB;have HO_3:=n0_;have HB:=n1_;clear n0_ n1_;(try clear hb);(try clear hb2);(try clear hk);(try clear hi)));go_meet
     case rel=>exact ⟨_,(t362),(by first|rfl|(simp;done)|(simp [*];done)),H',⟨by have:=HK1.out;first|omega|exact Nat.le_refl _⟩,⟨by (with_reducible repeat (first|apply Kd.S_alloc|apply Kd.S_drewN|apply Kd.S_drew));exact HO_3.out⟩,⟨zzh1⟩⟩
    ·
     rw [if_neg c5] at H;have c5b0:decide (x4_1 < (l0.length:Int))=false:=decide_eq_false c5;clear c5
     (first|rw [c5b0]|(simp only [i64_w,i32_w];rw [c5b0])|skip);have H':=zzm H;clear H;go_wp2;go_meet
     case rel=>exact ⟨_,(false),(by first|rfl|(simp;done)|(simp [*];done)),H',⟨by have:=HK1.out;first|omega|exact Nat.le_refl _⟩,⟨by (with_reducible repeat (first|apply Kd.S_alloc|apply Kd.S_drewN|apply Kd.S_drew));exact HO_3.out⟩,⟨zzh1⟩⟩
   case rest=>
    clear HC4;try clear c1
    try clear p2
    try clear c5
    try clear c5b0
    try clear p2
    obtain ⟨kq,x14_3,rfl,HA,HJ3,HO_3,HB⟩:=hcut;cases kq with
    | zero=>exact absurd HA.out (by simp [Qf.j1])
    | succ kj3=>
     have H:=HA.out;clear HA;simp only [Qf.j1] at H;by_cases c8:x14_3=true
     ·
      subst c8;have H1:(Qf.l1 kj3 l0 x3_1 x4_1 0)=some r:=by rw [if_pos rfl] at H;exact H
      clear H;have H:=H1;clear H1;have H':=zzm H;clear H;go_wp2;go_loopg [3,5] kj3 (fun kq v3 v5 w'=>∃ (x3_3:List (S30)) (x5_3:Int),v5 = .int .i64 x5_3∧Aside0 (Qf.l1 kq l0 x3_3 x4_1 x5_3=some r)∧Aside0 (kq≤kj3)∧Aside0 (Kd.S k30 30 w' w.heap.size (fun _=>True) v3 x3_3)∧Aside0 (Below w.heap.size w w'))
      case atStart=>exact ⟨(x3_1),(0),(by first|rfl|(simp;done)|(simp [*];done)),H',⟨Nat.le_refl _⟩,⟨by (with_reducible repeat (first|apply Kd.S_alloc|apply Kd.S_drewN|apply Kd.S_drew));exact HO_3.out⟩,⟨zzh1⟩⟩
      case round=>
       clear H';try clear c1
       try clear p2
       try clear c5
       try clear c5b0
       try clear c8
       try clear p2
       obtain ⟨x3_3,x5_3,rfl,HA,HK3,HO_3,HB⟩:=hrel;cases gk with
       | zero=>exact absurd HA.out (by simp [Qf.l1])
       | succ k3=>
        have H:=HA.out;clear HA;simp only [Qf.l1] at H;by_cases c9 : 0≤x4_1
        ·
         rw [if_pos c9] at H;have c9b0:decide (0≤x4_1)=true:=decide_eq_true c9;clear c9;by_cases c10:x4_1 < (l0.length:Int)
         ·
          rw [if_pos c10] at H;have c10b0:decide (x4_1 < (l0.length:Int))=true:=decide_eq_true c10;clear c10;by_cases c11:x5_3 < (((Qa l0 x4_1).f5).length:Int)
          ·
           rw [if_pos c11] at H;have c11b0:decide (x5_3 < (((Qa l0 x4_1).f5).length:Int))=true:=decide_eq_true c11;clear c11;obtain ⟨bq12,hbq12⟩:∃ b_:Bool,b_=((Qa l0 x4_1).f1):=⟨_,rfl⟩;replace H:(if (bq12=true) then (Qf.l1 k3 l0 x3_3 x4_1 (wrap64 (x5_3+1))) else (if 0≤x5_3 then ((Rd.f k3 l0 ((Qa l0 x4_1).f0) (bq12) ((Qa l0 x4_1).f2) ((Qa l0 x4_1).f3) ((Qa l0 x4_1).f4) ((Qa l0 x4_1).f5) ((Qb ((Qa l0 x4_1).f5) x5_3).f0) ((Qb ((Qa l0 x4_1).f5) x5_3).f1) ((Qb ((Qa l0 x4_1).f5) x5_3).f2) ((Qb ((Qa l0 x4_1).f5) x5_3).f3) ((Qb ((Qa l0 x4_1).f5) x5_3).f4) ((Qb ((Qa l0 x4_1).f5) x5_3).f5) false).bind fun t368=>(if t368=true then ((Q9.f ((Qb ((Qa l0 x4_1).f5) x5_3).f0) ((Qb ((Qa l0 x4_1).f5) x5_3).f1) ((Qb ((Qa l0 x4_1).f5) x5_3).f2) ((Qb ((Qa l0 x4_1).f5) x5_3).f3) ((Qb ((Qa l0 x4_1).f5) x5_3).f4) ((Qb ((Qa l0 x4_1).f5) x5_3).f5)).bind fun bt371=>(if x3_3.length < 1759218604441 then (Qf.l1 k3 l0 (x3_3 ++ [(⟨bt371.1,bt371.2.1,bt371.2.2.1,bt371.2.2.2.1,bt371.2.2.2.2.1,bt371.2.2.2.2.2⟩:S30)]) x4_1 (wrap64 (x5_3+1))) else (none))) else (Qf.l1 k3 l0 x3_3 x4_1 (wrap64 (x5_3+1))))) else (none)))=some r:=by rw [← hbq12] at H;exact H
           have Nbq12:=zzm hbq12;clear hbq12;by_cases c13:(bq12=true)
           ·
            subst c13;have H1:(Qf.l1 k3 l0 x3_3 x4_1 (wrap64 (x5_3+1)))=some r:=by rw [if_pos rfl] at H;exact H
            clear H;have H:=H1;clear H1;have H':=zzm H;clear H;have p363 : 0≤(x4_1:Int):=zzt;have q363:x4_1 < (l0.length:Int):=zzt;obtain ⟨ad363,A363_5,c363_5,e363,hx363_0,hx363_1,hx363_2,hx363_3,hx363_4,hx363_5,hl363_5,hi363_5⟩:=Qw HR0.out x4_1 p363 q363
            (try rw [← Nbq12.out] at hx363_0);(try rw [← Nbq12.out] at hw363_0)
            (try rw [← Nbq12.out] at hx363_1);(try rw [← Nbq12.out] at hw363_1);cases e363;replace hx363_0:=zzx HB.out hx363_0;replace hx363_1:=zzx HB.out hx363_1;replace hx363_2:=zzx HB.out hx363_2;replace hx363_3:=zzx HB.out hx363_3;replace hx363_4:=zzx HB.out hx363_4;replace hx363_5:=zzx HB.out hx363_5;have HR363_5:=zzm hi363_5;have HC363_5:=zzm hl363_5;clear hi363_5 hl363_5;replace p363:=eq_true p363;replace q363:=eq_true q363;try go_wp2
            have n0_:=zzm (Kd.S_drew HO_3.out);have n1_:=zzm (zzc HB.out);clear HO_3 HB;have HO_3:=n0_;have HB:=n1_;clear n0_ n1_;have p364 : 0≤(x4_1:Int):=zzt;have q364:x4_1 < (l0.length:Int):=zzt;obtain ⟨ad364,A364_5,c364_5,e364,hx364_0,hx364_1,hx364_2,hx364_3,hx364_4,hx364_5,hl364_5,hi364_5⟩:=Qw HR0.out x4_1 p364 q364;have hw364_5:=hx364_5;have hw364_4:=hx364_4;have hw364_3:=hx364_3;have hw364_2:=hx364_2;have hw364_1:=hx364_1;have hw364_0:=hx364_0
            (try rw [← Nbq12.out] at hx364_0);(try rw [← Nbq12.out] at hw364_0)
            (try rw [← Nbq12.out] at hx364_1);(try rw [← Nbq12.out] at hw364_1);obtain rfl:ad363=ad364:=(by injection e364);replace hx364_0:=zzx HB.out hx364_0;replace hx364_1:=zzx HB.out hx364_1;replace hx364_2:=zzx HB.out hx364_2;replace hx364_3:=zzx HB.out hx364_3;replace hx364_4:=zzx HB.out hx364_4;replace hx364_5:=zzx HB.out hx364_5;have HR364_5:=zzm hi364_5;have HC364_5:=zzm hl364_5;clear hi364_5 hl364_5;replace p364:=eq_true p364;replace q364:=eq_true q364;refine start_ (n:=22) (S:=fun w'=>w'.cell? (ad363.add ((x4_1).toNat * 6))=some (.bool ((Qa l0 x4_1).f0))∧w'.cell? ⟨(ad363.add ((x4_1).toNat * 6)).block,(ad363.add ((x4_1).toNat * 6)).off+1,none⟩=some (.bool true)∧w'.cell? ⟨(ad363.add ((x4_1).toNat * 6)).block,(ad363.add ((x4_1).toNat * 6)).off+2,none⟩=some (.int .i64 ((Qa l0 x4_1).f2))∧w'.cell? ⟨(ad363.add ((x4_1).toNat * 6)).block,(ad363.add ((x4_1).toNat * 6)).off+3,none⟩=some (.int .i64 ((Qa l0 x4_1).f3))∧w'.cell? ⟨(ad363.add ((x4_1).toNat * 6)).block,(ad363.add ((x4_1).toNat * 6)).off+4,none⟩=some (.int .i64 ((Qa l0 x4_1).f4))∧w'.cell? ⟨(ad363.add ((x4_1).toNat * 6)).block,(ad363.add ((x4_1).toNat * 6)).off+5,none⟩=some (.slice A364_5 ((Qa l0 x4_1).f5).length c364_5)) (ds:=[]) (zzB 22 0) (by kernel_rfl) rfl rfl ⟨(zzx HB.out hw364_0),(zzx HB.out hw364_1),(zzx HB.out hw364_2),(zzx HB.out hw364_3),(zzx HB.out hw364_4),(zzx HB.out hw364_5)⟩ (fun hHeld=>?_);refine with_tabW Qf.tab8 Qf.bits8 (fun HT_ HW_=>?_);generalize wr.drew=w14 at HO_3 HB HR364_5 hx364_0 hx364_1 hx364_2 hx364_3 hx364_4 hx364_5 hHeld ⊢;refine pure_ (i:=0) (N:=some 27) (v:=?_) (a':=?_) (zzB 22 1) rfl rfl (zzA2 HT_.out) (fun _ _ _ h=>h) (Or.inl ⟨by rfl,?_⟩) ?_ ?_;rotate_left
            ·
             intro w';go_simp;with_reducible rfl
            rotate_left
            ·
             simp only [Act.put,zzq,zzr,zzs,i64_w,i32_w];rfl
            refine pure_ (i:=1) (N:=some 28) (v:=?_) (a':=?_) (zzB 22 3) rfl rfl (zzA2 HT_.out) (fun _ _ _ h=>h) (Or.inl ⟨by rfl,?_⟩) ?_ ?_;rotate_left
            ·
             intro w';go_simp;with_reducible rfl
            rotate_left
            ·
             simp only [Act.put,zzq,zzr,zzs,i64_w,i32_w];rfl
            refine pure_ (i:=2) (N:=some 29) (v:=?_) (a':=?_) (zzB 22 7) rfl rfl (zzA2 HT_.out) (fun _ _ _ h=>h) (Or.inl ⟨by rfl,?_⟩) ?_ ?_;rotate_left
            ·
             intro w';go_simp;with_reducible rfl
            rotate_left
            ·
             simp only [Act.put,zzq,zzr,zzs,i64_w,i32_w];rfl
            refine pure_ (i:=3) (N:=some 30) (v:=?_) (a':=?_) (zzB 22 15) rfl rfl (zzA2 HT_.out) (fun _ _ _ h=>h) (Or.inl ⟨by rfl,?_⟩) ?_ ?_;rotate_left
            ·
             intro w';go_simp;with_reducible rfl
            rotate_left
            ·
             simp only [Act.put,zzq,zzr,zzs,i64_w,i32_w];rfl
            refine take_ (i:=4) (N:=some 31) (v:=?_) (a':=?_) (zzB 22 31) rfl rfl (take_ofW HT_.out HW_.out (by kernel_rfl)) (fun _ _ _ h=>h) (Or.inl ⟨by rfl,?_⟩) hHeld ?_ ?_;rotate_left
            ·
             rintro w' ⟨s0,s1,s2,s3,s4,s5⟩;go_simp;with_reducible rfl
            rotate_left
            ·
             simp only [Act.put,zzq,zzr,zzs,i64_w,i32_w];rfl
            refine pure_ (i:=5) (N:=some 32) (v:=?_) (a':=?_) (zzB 22 63) rfl rfl (zzA2 HT_.out) (fun _ _ _ h=>h) (Or.inl ⟨by rfl,?_⟩) ?_ ?_;rotate_left
            ·
             intro w';go_simp;with_reducible rfl
            rotate_left
            ·
             simp only [Act.put,zzq,zzr,zzs,i64_w,i32_w];rfl
            refine pure_ (i:=6) (N:=some 33) (v:=?_) (a':=?_) (zzB 22 127) rfl rfl (zzA2 HT_.out) (fun _ _ _ h=>h) (Or.inl ⟨by rfl,?_⟩) ?_ ?_;rotate_left
            ·
             intro w';go_simp;with_reducible rfl
            rotate_left
            ·
             simp only [Act.put,zzq,zzr,zzs,i64_w,i32_w];rfl
            refine pure_ (i:=7) (N:=some 34) (v:=undef) (a':=?_) (zzB 22 255) rfl rfl (zzA2 HT_.out) (fun _ _ _ h=>h) (Or.inr ⟨by rfl,rfl⟩) ?_ ?_;rotate_left
            ·
             simp only [Act.put,zzq,zzr,zzs,i64_w,i32_w];rfl
            refine pure_ (i:=8) (N:=some 35) (v:=undef) (a':=?_) (zzB 22 511) rfl rfl (zzA2 HT_.out) (fun _ _ _ h=>h) (Or.inr ⟨by rfl,rfl⟩) ?_ ?_;rotate_left
            ·
             simp only [Act.put,zzq,zzr,zzs,i64_w,i32_w];rfl
            refine pure_ (i:=9) (N:=some 36) (v:=undef) (a':=?_) (zzB 22 1023) rfl rfl (zzA2 HT_.out) (fun _ _ _ h=>h) (Or.inr ⟨by rfl,rfl⟩) ?_ ?_;rotate_left
            ·
             simp only [Act.put,zzq,zzr,zzs,i64_w,i32_w];rfl
            refine pure_ (i:=10) (N:=some 37) (v:=undef) (a':=?_) (zzB 22 2047) rfl rfl (zzA2 HT_.out) (fun _ _ _ h=>h) (Or.inr ⟨by rfl,rfl⟩) ?_ ?_;rotate_left
            ·
             simp only [Act.put,zzq,zzr,zzs,i64_w,i32_w];rfl
            refine pure_ (i:=11) (N:=some 38) (v:=undef) (a':=?_) (zzB 22 4095) rfl rfl (zzA2 HT_.out) (fun _ _ _ h=>h) (Or.inr ⟨by rfl,rfl⟩) ?_ ?_;rotate_left
            ·
             simp only [Act.put,zzq,zzr,zzs,i64_w,i32_w];rfl
            refine pure_ (i:=12) (N:=some 39) (v:=undef) (a':=?_) (zzB 22 8191) rfl rfl (zzA2 HT_.out) (fun _ _ _ h=>h) (Or.inr ⟨by rfl,rfl⟩) ?_ ?_;rotate_left
            ·
             simp only [Act.put,zzq,zzr,zzs,i64_w,i32_w];rfl
            refine pure_ (i:=13) (N:=some 40) (v:=undef) (a':=?_) (zzB 22 16383) rfl rfl (zzA2 HT_.out) (fun _ _ _ h=>h) (Or.inr ⟨by rfl,rfl⟩) ?_ ?_;rotate_left
            ·
             simp only [Act.put,zzq,zzr,zzs,i64_w,i32_w];rfl
            refine pure_ (i:=14) (N:=some 41) (v:=undef) (a':=?_) (zzB 22 32767) rfl rfl (zzA2 HT_.out) (fun _ _ _ h=>h) (Or.inr ⟨by rfl,rfl⟩) ?_ ?_;rotate_left
            ·
             simp only [Act.put,zzq,zzr,zzs,i64_w,i32_w];rfl
            refine pure_ (i:=15) (N:=some 42) (v:=undef) (a':=?_) (zzB 22 65535) rfl rfl (zzA2 HT_.out) (fun _ _ _ h=>h) (Or.inr ⟨by rfl,rfl⟩) ?_ ?_;rotate_left
            ·
             simp only [Act.put,zzq,zzr,zzs,i64_w,i32_w];rfl
            refine pure_ (i:=16) (N:=some 43) (v:=undef) (a':=?_) (zzB 22 131071) rfl rfl (zzA2 HT_.out) (fun _ _ _ h=>h) (Or.inr ⟨by rfl,rfl⟩) ?_ ?_;rotate_left
            ·
             simp only [Act.put,zzq,zzr,zzs,i64_w,i32_w];rfl
            refine pure_ (i:=17) (N:=some 44) (v:=undef) (a':=?_) (zzB 22 262143) rfl rfl (zzA2 HT_.out) (fun _ _ _ h=>h) (Or.inr ⟨by rfl,rfl⟩) ?_ ?_;rotate_left
            ·
             simp only [Act.put,zzq,zzr,zzs,i64_w,i32_w];rfl
            refine pure_ (i:=18) (N:=some 45) (v:=undef) (a':=?_) (zzB 22 524287) rfl rfl (zzA2 HT_.out) (fun _ _ _ h=>h) (Or.inr ⟨by rfl,rfl⟩) ?_ ?_;rotate_left
            ·
             simp only [Act.put,zzq,zzr,zzs,i64_w,i32_w];rfl
            refine pure_ (i:=19) (N:=some 46) (v:=undef) (a':=?_) (zzB 22 1048575) rfl rfl (zzA2 HT_.out) (fun _ _ _ h=>h) (Or.inr ⟨by rfl,rfl⟩) ?_ ?_;rotate_left
            ·
             simp only [Act.put,zzq,zzr,zzs,i64_w,i32_w];rfl
            refine pure_ (i:=20) (N:=some 47) (v:=undef) (a':=?_) (zzB 22 2097151) rfl rfl (zzA2 HT_.out) (fun _ _ _ h=>h) (Or.inr ⟨by rfl,rfl⟩) ?_ ?_;rotate_left
            ·
             simp only [Act.put,zzq,zzr,zzs,i64_w,i32_w];rfl
            refine pure_ (i:=21) (N:=some 48) (v:=?_) (a':=?_) (zzB 22 4194303) rfl rfl (zzA2 HT_.out) (fun _ _ _ h=>h) (Or.inl ⟨by rfl,?_⟩) ?_ ?_;rotate_left
            ·
             intro w';go_simp;with_reducible rfl
            rotate_left
            ·
             simp only [Act.put,zzq,zzr,zzs,i64_w,i32_w];rfl
            refine done_ (done_of HT_.out (by kernel_rfl)) ?_;try go_wp2
            go_roundg k3
            case measure=>have:=HK1.out;have:=HJ3.out;have:=HK3.out;omega
            case rel=>exact ⟨(x3_3),(wrap64 (x5_3+1)),(by first|rfl|(simp;done)|(simp [*];done)),H',⟨by have:=HK1.out;have:=HJ3.out;have:=HK3.out;omega⟩,⟨by (with_reducible repeat (first|apply Kd.S_alloc|apply Kd.S_drewN|apply Kd.S_drew));exact HO_3.out⟩,⟨zzh1⟩⟩
           ·
            replace c13:=Bool.eq_false_iff.mpr c13;subst c13;have H1:(if 0≤x5_3 then ((Rd.f k3 l0 ((Qa l0 x4_1).f0) (false) ((Qa l0 x4_1).f2) ((Qa l0 x4_1).f3) ((Qa l0 x4_1).f4) ((Qa l0 x4_1).f5) ((Qb ((Qa l0 x4_1).f5) x5_3).f0) ((Qb ((Qa l0 x4_1).f5) x5_3).f1) ((Qb ((Qa l0 x4_1).f5) x5_3).f2) ((Qb ((Qa l0 x4_1).f5) x5_3).f3) ((Qb ((Qa l0 x4_1).f5) x5_3).f4) ((Qb ((Qa l0 x4_1).f5) x5_3).f5) false).bind fun t368=>(if t368=true then ((Q9.f ((Qb ((Qa l0 x4_1).f5) x5_3).f0) ((Qb ((Qa l0 x4_1).f5) x5_3).f1) ((Qb ((Qa l0 x4_1).f5) x5_3).f2) ((Qb ((Qa l0 x4_1).f5) x5_3).f3) ((Qb ((Qa l0 x4_1).f5) x5_3).f4) ((Qb ((Qa l0 x4_1).f5) x5_3).f5)).bind fun bt371=>(if x3_3.length < 1759218604441 then (Qf.l1 k3 l0 (x3_3 ++ [(⟨bt371.1,bt371.2.1,bt371.2.2.1,bt371.2.2.2.1,bt371.2.2.2.2.1,bt371.2.2.2.2.2⟩:S30)]) x4_1 (wrap64 (x5_3+1))) else (none))) else (Qf.l1 k3 l0 x3_3 x4_1 (wrap64 (x5_3+1))))) else (none))=some r:=by rw [if_neg (show ¬ (false=true) by decide)] at H;exact H
            clear H;have H:=H1;clear H1;by_cases c15 : 0≤x5_3
            ·
             rw [if_pos c15] at H;have c15b0:decide (0≤x5_3)=true:=decide_eq_true c15;clear c15;replace H:=Option.bind_eq_some_iff.mp H;obtain ⟨t368,A160,H⟩:=H;replace H:(if t368=true then ((Q9.f ((Qb ((Qa l0 x4_1).f5) x5_3).f0) ((Qb ((Qa l0 x4_1).f5) x5_3).f1) ((Qb ((Qa l0 x4_1).f5) x5_3).f2) ((Qb ((Qa l0 x4_1).f5) x5_3).f3) ((Qb ((Qa l0 x4_1).f5) x5_3).f4) ((Qb ((Qa l0 x4_1).f5) x5_3).f5)).bind fun bt371=>(if x3_3.length < 1759218604441 then (Qf.l1 k3 l0 (x3_3 ++ [(⟨bt371.1,bt371.2.1,bt371.2.2.1,bt371.2.2.2.1,bt371.2.2.2.2.1,bt371.2.2.2.2.2⟩:S30)]) x4_1 (wrap64 (x5_3+1))) else (none))) else (Qf.l1 k3 l0 x3_3 x4_1 (wrap64 (x5_3+1))))=some r:=H;have A16:=zzm A160;clear A160;by_cases c17:t368=true
             ·
              subst c17;have H1:((Q9.f ((Qb ((Qa l0 x4_1).f5) x5_3).f0) ((Qb ((Qa l0 x4_1).f5) x5_3).f1) ((Qb ((Qa l0 x4_1).f5) x5_3).f2) ((Qb ((Qa l0 x4_1).f5) x5_3).f3) ((Qb ((Qa l0 x4_1).f5) x5_3).f4) ((Qb ((Qa l0 x4_1).f5) x5_3).f5)).bind fun bt371=>(if x3_3.length < 1759218604441 then (Qf.l1 k3 l0 (x3_3 ++ [(⟨bt371.1,bt371.2.1,bt371.2.2.1,bt371.2.2.2.1,bt371.2.2.2.2.1,bt371.2.2.2.2.2⟩:S30)]) x4_1 (wrap64 (x5_3+1))) else (none)))=some r:=by rw [if_pos rfl] at H;exact H
              clear H;have H:=H1;clear H1;replace H:=Option.bind_eq_some_iff.mp H;obtain ⟨⟨t371,t372,t373,t374,t377,t378⟩,A180,H⟩:=H;replace H:(if x3_3.length < 1759218604441 then (Qf.l1 k3 l0 (x3_3 ++ [(⟨t371,t372,t373,t374,t377,t378⟩:S30)]) x4_1 (wrap64 (x5_3+1))) else (none))=some r:=H;have A18:=zzm A180;clear A180;by_cases c19:x3_3.length < 1759218604441
              ·
               rw [if_pos c19] at H;have LMc19:=zzm c19;clear c19;obtain ⟨y381,hy381⟩:∃ y_:List (S30),y_=(x3_3 ++ [(⟨t371,t372,t373,t374,t377,t378⟩:S30)]):=⟨_,rfl⟩;replace H:(Qf.l1 k3 l0 y381 x4_1 (wrap64 (x5_3+1)))=some r:=by first|(rw [hy381];with_reducible exact H)|(have H2_:=(Option.bind_some _ _).symm.trans H;rw [hy381];with_reducible exact H2_)|(have H2_:=(Option.bind_some _ _).symm.trans H;with_reducible exact H2_)|with_reducible exact H|(rw [hy381];exact H)|exact H
               have Ny381:=zzm hy381;clear hy381;have H':=zzm H;clear H;have p363 : 0≤(x4_1:Int):=zzt;have q363:x4_1 < (l0.length:Int):=zzt;obtain ⟨ad363,A363_5,c363_5,e363,hx363_0,hx363_1,hx363_2,hx363_3,hx363_4,hx363_5,hl363_5,hi363_5⟩:=Qw HR0.out x4_1 p363 q363
               (try rw [← Nbq12.out] at hx363_0);(try rw [← Nbq12.out] at hw363_0)
               (try rw [← Nbq12.out] at hx363_1);(try rw [← Nbq12.out] at hw363_1);cases e363;replace hx363_0:=zzx HB.out hx363_0;replace hx363_1:=zzx HB.out hx363_1;replace hx363_2:=zzx HB.out hx363_2;replace hx363_3:=zzx HB.out hx363_3;replace hx363_4:=zzx HB.out hx363_4;replace hx363_5:=zzx HB.out hx363_5;have HR363_5:=zzm hi363_5;have HC363_5:=zzm hl363_5;clear hi363_5 hl363_5;replace p363:=eq_true p363;replace q363:=eq_true q363;try go_wp2
               have n0_:=zzm (Kd.S_drew HO_3.out);have n1_:=zzm (zzc HB.out);clear HO_3 HB;have HO_3:=n0_;have HB:=n1_;clear n0_ n1_;have p364 : 0≤(x4_1:Int):=zzt;have q364:x4_1 < (l0.length:Int):=zzt;obtain ⟨ad364,A364_5,c364_5,e364,hx364_0,hx364_1,hx364_2,hx364_3,hx364_4,hx364_5,hl364_5,hi364_5⟩:=Qw HR0.out x4_1 p364 q364;have hw364_5:=hx364_5;have hw364_4:=hx364_4;have hw364_3:=hx364_3;have hw364_2:=hx364_2;have hw364_1:=hx364_1;have hw364_0:=hx364_0
               (try rw [← Nbq12.out] at hx364_0);(try rw [← Nbq12.out] at hw364_0)
               (try rw [← Nbq12.out] at hx364_1);(try rw [← Nbq12.out] at hw364_1);obtain rfl:ad363=ad364:=(by injection e364);replace hx364_0:=zzx HB.out hx364_0;replace hx364_1:=zzx HB.out hx364_1;replace hx364_2:=zzx HB.out hx364_2;replace hx364_3:=zzx HB.out hx364_3;replace hx364_4:=zzx HB.out hx364_4;replace hx364_5:=zzx HB.out hx364_5;have HR364_5:=zzm hi364_5;have HC364_5:=zzm hl364_5;clear hi364_5 hl364_5;replace p364:=eq_true p364;replace q364:=eq_true q364;have p365 : 0≤(x4_1:Int):=zzt;have q365:x4_1 < (l0.length:Int):=zzt;obtain ⟨ad365,A365_5,c365_5,e365,hx365_0,hx365_1,hx365_2,hx365_3,hx365_4,hx365_5,hl365_5,hi365_5⟩:=Qw HR0.out x4_1 p365 q365;have hw365_5:=hx365_5;have hw365_4:=hx365_4;have hw365_3:=hx365_3;have hw365_2:=hx365_2;have hw365_1:=hx365_1;have hw365_0:=hx365_0
               (try rw [← Nbq12.out] at hx365_0);(try rw [← Nbq12.out] at hw365_0)
               (try rw [← Nbq12.out] at hx365_1);(try rw [← Nbq12.out] at hw365_1);obtain rfl:ad363=ad365:=(by injection e365);replace hx365_0:=zzx HB.out hx365_0;replace hx365_1:=zzx HB.out hx365_1;replace hx365_2:=zzx HB.out hx365_2;replace hx365_3:=zzx HB.out hx365_3;replace hx365_4:=zzx HB.out hx365_4;replace hx365_5:=zzx HB.out hx365_5;have HR365_5:=zzm hi365_5;have HC365_5:=zzm hl365_5;clear hi365_5 hl365_5;replace p365:=eq_true p365;replace q365:=eq_true q365;have ea_:=Option.some.inj (hx364_5.symm.trans hx365_5);injection ea_ with ea_ en_ ec_;subst ea_;subst ec_;clear en_;have p366 : 0≤(x4_1:Int):=zzt;have q366:x4_1 < (l0.length:Int):=zzt;obtain ⟨ad366,A366_5,c366_5,e366,hx366_0,hx366_1,hx366_2,hx366_3,hx366_4,hx366_5,hl366_5,hi366_5⟩:=Qw HR0.out x4_1 p366 q366;have hw366_5:=hx366_5;have hw366_4:=hx366_4;have hw366_3:=hx366_3;have hw366_2:=hx366_2;have hw366_1:=hx366_1;have hw366_0:=hx366_0
               (try rw [← Nbq12.out] at hx366_0);(try rw [← Nbq12.out] at hw366_0)
               (try rw [← Nbq12.out] at hx366_1);(try rw [← Nbq12.out] at hw366_1);obtain rfl:ad363=ad366:=(by injection e366);replace hx366_0:=zzx HB.out hx366_0;replace hx366_1:=zzx HB.out hx366_1;replace hx366_2:=zzx HB.out hx366_2;replace hx366_3:=zzx HB.out hx366_3;replace hx366_4:=zzx HB.out hx366_4;replace hx366_5:=zzx HB.out hx366_5;have HR366_5:=zzm hi366_5;have HC366_5:=zzm hl366_5;clear hi366_5 hl366_5;replace p366:=eq_true p366;replace q366:=eq_true q366;have ea_:=Option.some.inj (hx364_5.symm.trans hx366_5);injection ea_ with ea_ en_ ec_;subst ea_;subst ec_;clear en_;have p367 : 0≤(x5_3:Int):=zzt;have q367:x5_3 < (((Qa l0 x4_1).f5).length:Int):=zzt;obtain ⟨ad367,A367_3,c367_3,A367_5,c367_5,e367,hx367_0,hx367_1,hx367_2,hx367_3,hx367_4,hx367_5,hl367_3,hi367_3,hl367_5,hi367_5⟩:=Qy HR366_5.out x5_3 p367 q367;have hw367_5:=hx367_5;have hw367_4:=hx367_4;have hw367_3:=hx367_3;have hw367_2:=hx367_2;have hw367_1:=hx367_1;have hw367_0:=hx367_0
               (try rw [← Nbq12.out] at hx367_2);(try rw [← Nbq12.out] at hw367_2)
               (try rw [← Nbq12.out] at hx367_4);(try rw [← Nbq12.out] at hw367_4);cases e367;replace hx367_0:=zzx HB.out hx367_0;replace hx367_1:=zzx HB.out hx367_1;replace hx367_2:=zzx HB.out hx367_2;replace hx367_3:=zzx HB.out hx367_3;replace hx367_4:=zzx HB.out hx367_4;replace hx367_5:=zzx HB.out hx367_5;have HR367_3:=zzm hi367_3;have HC367_3:=zzm hl367_3;clear hi367_3 hl367_3;have HR367_5:=zzm hi367_5;have HC367_5:=zzm hl367_5;clear hi367_5 hl367_5;replace p367:=eq_true p367;replace q367:=eq_true q367;refine start_ (n:=22) (S:=fun w'=>w'.cell? (ad363.add ((x4_1).toNat * 6))=some (.bool ((Qa l0 x4_1).f0))∧w'.cell? ⟨(ad363.add ((x4_1).toNat * 6)).block,(ad363.add ((x4_1).toNat * 6)).off+1,none⟩=some (.bool false)∧w'.cell? ⟨(ad363.add ((x4_1).toNat * 6)).block,(ad363.add ((x4_1).toNat * 6)).off+2,none⟩=some (.int .i64 ((Qa l0 x4_1).f2))∧w'.cell? ⟨(ad363.add ((x4_1).toNat * 6)).block,(ad363.add ((x4_1).toNat * 6)).off+3,none⟩=some (.int .i64 ((Qa l0 x4_1).f3))∧w'.cell? ⟨(ad363.add ((x4_1).toNat * 6)).block,(ad363.add ((x4_1).toNat * 6)).off+4,none⟩=some (.int .i64 ((Qa l0 x4_1).f4))∧w'.cell? ⟨(ad363.add ((x4_1).toNat * 6)).block,(ad363.add ((x4_1).toNat * 6)).off+5,none⟩=some (.slice (some ad367) ((Qa l0 x4_1).f5).length c364_5)∧w'.cell? (ad363.add ((x4_1).toNat * 6))=some (.bool ((Qa l0 x4_1).f0))∧w'.cell? ⟨(ad363.add ((x4_1).toNat * 6)).block,(ad363.add ((x4_1).toNat * 6)).off+1,none⟩=some (.bool (false))∧w'.cell? ⟨(ad363.add ((x4_1).toNat * 6)).block,(ad363.add ((x4_1).toNat * 6)).off+2,none⟩=some (.int .i64 ((Qa l0 x4_1).f2))∧w'.cell? ⟨(ad363.add ((x4_1).toNat * 6)).block,(ad363.add ((x4_1).toNat * 6)).off+3,none⟩=some (.int .i64 ((Qa l0 x4_1).f3))∧w'.cell? ⟨(ad363.add ((x4_1).toNat * 6)).block,(ad363.add ((x4_1).toNat * 6)).off+4,none⟩=some (.int .i64 ((Qa l0 x4_1).f4))∧w'.cell? ⟨(ad363.add ((x4_1).toNat * 6)).block,(ad363.add ((x4_1).toNat * 6)).off+5,none⟩=some (.slice (some ad367) ((Qa l0 x4_1).f5).length c364_5)∧w'.cell? (ad363.add ((x4_1).toNat * 6))=some (.bool ((Qa l0 x4_1).f0))∧w'.cell? ⟨(ad363.add ((x4_1).toNat * 6)).block,(ad363.add ((x4_1).toNat * 6)).off+1,none⟩=some (.bool (false))∧w'.cell? ⟨(ad363.add ((x4_1).toNat * 6)).block,(ad363.add ((x4_1).toNat * 6)).off+2,none⟩=some (.int .i64 ((Qa l0 x4_1).f2))∧w'.cell? ⟨(ad363.add ((x4_1).toNat * 6)).block,(ad363.add ((x4_1).toNat * 6)).off+3,none⟩=some (.int .i64 ((Qa l0 x4_1).f3))∧w'.cell? ⟨(ad363.add ((x4_1).toNat * 6)).block,(ad363.add ((x4_1).toNat * 6)).off+4,none⟩=some (.int .i64 ((Qa l0 x4_1).f4))∧w'.cell? ⟨(ad363.add ((x4_1).toNat * 6)).block,(ad363.add ((x4_1).toNat * 6)).off+5,none⟩=some (.slice (some ad367) ((Qa l0 x4_1).f5).length c364_5)∧w'.cell? (ad367.add ((x5_3).toNat * 6))=some (.int .i64 ((Qb ((Qa l0 x4_1).f5) x5_3).f0))∧w'.cell? ⟨(ad367.add ((x5_3).toNat * 6)).block,(ad367.add ((x5_3).toNat * 6)).off+1,none⟩=some (.int .i64 ((Qb ((Qa l0 x4_1).f5) x5_3).f1))∧w'.cell? ⟨(ad367.add ((x5_3).toNat * 6)).block,(ad367.add ((x5_3).toNat * 6)).off+2,none⟩=some (.bool ((Qb ((Qa l0 x4_1).f5) x5_3).f2))∧w'.cell? ⟨(ad367.add ((x5_3).toNat * 6)).block,(ad367.add ((x5_3).toNat * 6)).off+3,none⟩=some (.slice A367_3 ((Qb ((Qa l0 x4_1).f5) x5_3).f3).length c367_3)∧w'.cell? ⟨(ad367.add ((x5_3).toNat * 6)).block,(ad367.add ((x5_3).toNat * 6)).off+4,none⟩=some (.bool ((Qb ((Qa l0 x4_1).f5) x5_3).f4))∧w'.cell? ⟨(ad367.add ((x5_3).toNat * 6)).block,(ad367.add ((x5_3).toNat * 6)).off+5,none⟩=some (.slice A367_5 ((Qb ((Qa l0 x4_1).f5) x5_3).f5).length c367_5)) (ds:=[]) (zzB 22 0) (by kernel_rfl) rfl rfl ⟨(zzx HB.out hw364_0),(zzx HB.out hw364_1),(zzx HB.out hw364_2),(zzx HB.out hw364_3),(zzx HB.out hw364_4),(zzx HB.out hw364_5),(zzx HB.out hw365_0),(zzx HB.out hw365_1),(zzx HB.out hw365_2),(zzx HB.out hw365_3),(zzx HB.out hw365_4),(zzx HB.out hw365_5),(zzx HB.out hw366_0),(zzx HB.out hw366_1),(zzx HB.out hw366_2),(zzx HB.out hw366_3),(zzx HB.out hw366_4),(zzx HB.out hw366_5),(zzx HB.out hw367_0),(zzx HB.out hw367_1),(zzx HB.out hw367_2),(zzx HB.out hw367_3),(zzx HB.out hw367_4),(zzx HB.out hw367_5)⟩ (fun hHeld=>?_);refine with_tabW Qf.tab8 Qf.bits8 (fun HT_ HW_=>?_);generalize wr.drew=w20 at HO_3 HB HR364_5 HR365_5 HR366_5 HR367_3 HR367_5 hx364_0 hx364_1 hx364_2 hx364_3 hx364_4 hx364_5 hx365_0 hx365_1 hx365_2 hx365_3 hx365_4 hx365_5 hx366_0 hx366_1 hx366_2 hx366_3 hx366_4 hx366_5 hx367_0 hx367_1 hx367_2 hx367_3 hx367_4 hx367_5 hHeld ⊢;refine pure_ (i:=0) (N:=some 27) (v:=?_) (a':=?_) (zzB 22 1) rfl rfl (zzA2 HT_.out) (fun _ _ _ h=>h) (Or.inl ⟨by rfl,?_⟩) ?_ ?_;rotate_left
               ·
                intro w';go_simp;with_reducible rfl
               rotate_left
               ·
                simp only [Act.put,zzq,zzr,zzs,i64_w,i32_w];rfl
               refine pure_ (i:=1) (N:=some 28) (v:=?_) (a':=?_) (zzB 22 3) rfl rfl (zzA2 HT_.out) (fun _ _ _ h=>h) (Or.inl ⟨by rfl,?_⟩) ?_ ?_;rotate_left
               ·
                intro w';go_simp;with_reducible rfl
               rotate_left
               ·
                simp only [Act.put,zzq,zzr,zzs,i64_w,i32_w];rfl
               refine pure_ (i:=2) (N:=some 29) (v:=?_) (a':=?_) (zzB 22 7) rfl rfl (zzA2 HT_.out) (fun _ _ _ h=>h) (Or.inl ⟨by rfl,?_⟩) ?_ ?_;rotate_left
               ·
                intro w';go_simp;with_reducible rfl
               rotate_left
               ·
                simp only [Act.put,zzq,zzr,zzs,i64_w,i32_w];rfl
               refine pure_ (i:=3) (N:=some 30) (v:=?_) (a':=?_) (zzB 22 15) rfl rfl (zzA2 HT_.out) (fun _ _ _ h=>h) (Or.inl ⟨by rfl,?_⟩) ?_ ?_;rotate_left
               ·
                intro w';go_simp;with_reducible rfl
               rotate_left
               ·
                simp only [Act.put,zzq,zzr,zzs,i64_w,i32_w];rfl
               refine take_ (i:=4) (N:=some 31) (v:=?_) (a':=?_) (zzB 22 31) rfl rfl (take_ofW HT_.out HW_.out (by kernel_rfl)) (fun _ _ _ h=>h) (Or.inl ⟨by rfl,?_⟩) hHeld ?_ ?_;rotate_left
               ·
                rintro w' ⟨s0,s1,s2,s3,s4,s5,s6,s7,s8,s9,s10,s11,s12,s13,s14,s15,s16,s17,s18,s19,s20,s21,s22,s23⟩;go_simp;with_reducible rfl
               rotate_left
               ·
                simp only [Act.put,zzq,zzr,zzs,i64_w,i32_w];rfl
               refine pure_ (i:=5) (N:=some 32) (v:=?_) (a':=?_) (zzB 22 63) rfl rfl (zzA2 HT_.out) (fun _ _ _ h=>h) (Or.inl ⟨by rfl,?_⟩) ?_ ?_;rotate_left
               ·
                intro w';go_simp;with_reducible rfl
               rotate_left
               ·
                simp only [Act.put,zzq,zzr,zzs,i64_w,i32_w];rfl
               refine pure_ (i:=6) (N:=some 33) (v:=?_) (a':=?_) (zzB 22 127) rfl rfl (zzA2 HT_.out) (fun _ _ _ h=>h) (Or.inl ⟨by rfl,?_⟩) ?_ ?_;rotate_left
               ·
                intro w';go_simp;with_reducible rfl
               rotate_left
               ·
                simp only [Act.put,zzq,zzr,zzs,i64_w,i32_w];rfl
               refine pure_ (i:=7) (N:=some 34) (v:=?_) (a':=?_) (zzB 22 255) rfl rfl (zzA2 HT_.out) (fun _ _ _ h=>h) (Or.inl ⟨by rfl,?_⟩) ?_ ?_;rotate_left
               ·
                intro w';go_simp;with_reducible rfl
               rotate_left
               ·
                simp only [Act.put,zzq,zzr,zzs,i64_w,i32_w];rfl
               refine pure_ (i:=8) (N:=some 35) (v:=?_) (a':=?_) (zzB 22 511) rfl rfl (zzA2 HT_.out) (fun _ _ _ h=>h) (Or.inl ⟨by rfl,?_⟩) ?_ ?_;rotate_left
               ·
                intro w';go_simp;with_reducible rfl
               rotate_left
               ·
                simp only [Act.put,zzq,zzr,zzs,i64_w,i32_w];rfl
               refine pure_ (i:=9) (N:=some 36) (v:=?_) (a':=?_) (zzB 22 1023) rfl rfl (zzA2 HT_.out) (fun _ _ _ h=>h) (Or.inl ⟨by rfl,?_⟩) ?_ ?_;rotate_left
               ·
                intro w';go_simp;with_reducible rfl
               rotate_left
               ·
                simp only [Act.put,zzq,zzr,zzs,i64_w,i32_w];rfl
               refine pure_ (i:=10) (N:=some 37) (v:=?_) (a':=?_) (zzB 22 2047) rfl rfl (zzA2 HT_.out) (fun _ _ _ h=>h) (Or.inl ⟨by rfl,?_⟩) ?_ ?_;rotate_left
               ·
                intro w';go_simp;with_reducible rfl
               rotate_left
               ·
                simp only [Act.put,zzq,zzr,zzs,i64_w,i32_w];rfl
               refine pure_ (i:=12) (N:=some 39) (v:=?_) (a':=?_) (zzB 22 6143) rfl rfl (zzA2 HT_.out) (fun _ _ _ h=>h) (Or.inl ⟨by rfl,?_⟩) ?_ ?_;rotate_left
               ·
                intro w';go_simp;with_reducible rfl
               rotate_left
               ·
                simp only [Act.put,zzq,zzr,zzs,i64_w,i32_w];rfl
               refine pure_ (i:=13) (N:=some 40) (v:=?_) (a':=?_) (zzB 22 14335) rfl rfl (zzA2 HT_.out) (fun _ _ _ h=>h) (Or.inl ⟨by rfl,?_⟩) ?_ ?_;rotate_left
               ·
                intro w';go_simp;with_reducible rfl
               rotate_left
               ·
                simp only [Act.put,zzq,zzr,zzs,i64_w,i32_w];rfl
               refine pure_ (i:=14) (N:=some 41) (v:=?_) (a':=?_) (zzB 22 30719) rfl rfl (zzA2 HT_.out) (fun _ _ _ h=>h) (Or.inl ⟨by rfl,?_⟩) ?_ ?_;rotate_left
               ·
                intro w';go_simp;with_reducible rfl
               rotate_left
               ·
                simp only [Act.put,zzq,zzr,zzs,i64_w,i32_w];rfl
               refine pure_ (i:=15) (N:=some 42) (v:=?_) (a':=?_) (zzB 22 63487) rfl rfl (zzA2 HT_.out) (fun _ _ _ h=>h) (Or.inl ⟨by rfl,?_⟩) ?_ ?_;rotate_left
               ·
                intro w';go_simp;with_reducible rfl
               rotate_left
               ·
                simp only [Act.put,zzq,zzr,zzs,i64_w,i32_w];rfl
               refine pure_ (i:=17) (N:=some 44) (v:=?_) (a':=?_) (zzB 22 194559) rfl rfl (zzA2 HT_.out) (fun _ _ _ h=>h) (Or.inl ⟨by rfl,?_⟩) ?_ ?_;rotate_left
               ·
                intro w';go_simp;with_reducible rfl
               rotate_left
               ·
                simp only [Act.put,zzq,zzr,zzs,i64_w,i32_w];rfl
               refine take_ (i:=11) (N:=some 38) (v:=?_) (a':=?_) (zzB 22 196607) rfl rfl (take_ofW HT_.out HW_.out (by kernel_rfl)) (fun _ _ _ h=>h) (Or.inl ⟨by rfl,?_⟩) hHeld ?_ ?_;rotate_left
               ·
                rintro w' ⟨s0,s1,s2,s3,s4,s5,s6,s7,s8,s9,s10,s11,s12,s13,s14,s15,s16,s17,s18,s19,s20,s21,s22,s23⟩;go_simp;with_reducible rfl
               rotate_left
               ·
                simp only [Act.put,zzq,zzr,zzs,i64_w,i32_w];rfl
               refine take_ (i:=16) (N:=some 43) (v:=?_) (a':=?_) (zzB 22 262143) rfl rfl (take_ofW HT_.out HW_.out (by kernel_rfl)) (fun _ _ _ h=>h) (Or.inl ⟨by rfl,?_⟩) hHeld ?_ ?_;rotate_left
               ·
                rintro w' ⟨s0,s1,s2,s3,s4,s5,s6,s7,s8,s9,s10,s11,s12,s13,s14,s15,s16,s17,s18,s19,s20,s21,s22,s23⟩;go_simp;with_reducible rfl
               rotate_left
               ·
                simp only [Act.put,zzq,zzr,zzs,i64_w,i32_w];rfl
               refine pure_ (i:=18) (N:=some 45) (v:=?_) (a':=?_) (zzB 22 524287) rfl rfl (zzA2 HT_.out) (fun _ _ _ h=>h) (Or.inl ⟨by rfl,?_⟩) ?_ ?_;rotate_left
               ·
                intro w';go_simp;with_reducible rfl
               rotate_left
               ·
                simp only [Act.put,zzq,zzr,zzs,i64_w,i32_w];rfl
               refine take_ (i:=19) (N:=some 46) (v:=?_) (a':=?_) (zzB 22 1048575) rfl rfl (take_ofW HT_.out HW_.out (by kernel_rfl)) (fun _ _ _ h=>h) (Or.inl ⟨by rfl,?_⟩) hHeld ?_ ?_;rotate_left
               ·
                rintro w' ⟨s0,s1,s2,s3,s4,s5,s6,s7,s8,s9,s10,s11,s12,s13,s14,s15,s16,s17,s18,s19,s20,s21,s22,s23⟩;go_simp;with_reducible rfl
               rotate_left
               ·
                simp only [Act.put,zzq,zzr,zzs,i64_w,i32_w];rfl
               refine one_ (i:=20) (N:=some 47) (zzB 22 2097151) rfl rfl (one_of HT_.out (by kernel_rfl)) (by decide) (fun K hK=>?_);refine goes_ Try.func44 (by kernel_rfl) rfl #[.slice (some ad363) l0.length c0,.agg #[.bool ((Qa l0 x4_1).f0),.bool false,.int .i64 ((Qa l0 x4_1).f2),.int .i64 ((Qa l0 x4_1).f3),.int .i64 ((Qa l0 x4_1).f4),.slice (some ad367) ((Qa l0 x4_1).f5).length c364_5],.agg #[.int .i64 ((Qb ((Qa l0 x4_1).f5) x5_3).f0),.int .i64 ((Qb ((Qa l0 x4_1).f5) x5_3).f1),.bool ((Qb ((Qa l0 x4_1).f5) x5_3).f2),.slice A367_3 ((Qb ((Qa l0 x4_1).f5) x5_3).f3).length c367_3,.bool ((Qb ((Qa l0 x4_1).f5) x5_3).f4),.slice A367_5 ((Qb ((Qa l0 x4_1).f5) x5_3).f5).length c367_5],.bool false] (by rfl) rfl rfl zzM2 ?_;with_reducible refine (Rd.calls k3 _ _ l0 ((Qa l0 x4_1).f0) false ((Qa l0 x4_1).f2) ((Qa l0 x4_1).f3) ((Qa l0 x4_1).f4) _ _ ((Qa l0 x4_1).f5) ((Qb ((Qa l0 x4_1).f5) x5_3).f0) ((Qb ((Qa l0 x4_1).f5) x5_3).f1) ((Qb ((Qa l0 x4_1).f5) x5_3).f2) _ _ ((Qb ((Qa l0 x4_1).f5) x5_3).f3) ((Qb ((Qa l0 x4_1).f5) x5_3).f4) _ _ ((Qb ((Qa l0 x4_1).f5) x5_3).f5) false true _ ?side1 ?side2 ?side3 ?side4 ?side5 ?side6 ?side7 ?side8 A16.out).mono ?_
               (case side1=>repeat (first|exact (Kd.C_below HR0.out HB.out)|(with_reducible refine Kd.C_alloc ?_ _)|(with_reducible refine Kd.C_drewN ?_ _)|(with_reducible refine Kd.C_drew ?_)))
               (case side2=>exact HC0.out)
               (case side3=>repeat (first|exact (Kd.C_below HR365_5.out HB.out)|(with_reducible refine Kd.C_alloc ?_ _)|(with_reducible refine Kd.C_drewN ?_ _)|(with_reducible refine Kd.C_drew ?_)))
               (case side4=>exact HC365_5.out)
               (case side5=>repeat (first|exact (Kd.C_below HR367_3.out HB.out)|(with_reducible refine Kd.C_alloc ?_ _)|(with_reducible refine Kd.C_drewN ?_ _)|(with_reducible refine Kd.C_drew ?_)))
               (case side6=>exact HC367_3.out)
               (case side7=>repeat (first|exact (Kd.C_below HR367_5.out HB.out)|(with_reducible refine Kd.C_alloc ?_ _)|(with_reducible refine Kd.C_drewN ?_ _)|(with_reducible refine Kd.C_drew ?_)))
               (case side8=>exact HC367_5.out);rintro e w21 ⟨rfl,hb⟩;refine ⟨_,rfl,?_⟩;have n0_:=zzm (Kd.S_below (zzS HO_3.out) hb);have n1_:=zzm (zzp zzh1 hb);clear HO_3 HB;have HO_3:=n0_;have HB:=n1_;clear n0_ n1_
               (try clear hb)
               (try clear hb2)
               (try clear hk)
               (try clear hi);refine hK.out _ _ ⟨(zzx HB.out hw364_0),(zzx HB.out hw364_1),(zzx HB.out hw364_2),(zzx HB.out hw364_3),(zzx HB.out hw364_4),(zzx HB.out hw364_5),(zzx HB.out hw365_0),(zzx HB.out hw365_1),(zzx HB.out hw365_2),(zzx HB.out hw365_3),(zzx HB.out hw365_4),(zzx HB.out hw365_5),(zzx HB.out hw366_0),(zzx HB.out hw366_1),(zzx HB.out hw366_2),(zzx HB.out hw366_3),(zzx HB.out hw366_4),(zzx HB.out hw366_5),(zzx HB.out hw367_0),(zzx HB.out hw367_1),(zzx HB.out hw367_2),(zzx HB.out hw367_3),(zzx HB.out hw367_4),(zzx HB.out hw367_5)⟩ (fun hHeld=>?_);clear hK K;refine norm_ (a':=?_) ?_ ?_;rotate_left
               ·
                show Act.put _ (some 47) _ = _;simp only [Act.put,zzq,zzr,zzs,i64_w,i32_w];rfl
               refine pure_ (i:=21) (N:=some 48) (v:=?_) (a':=?_) (zzB 22 4194303) rfl rfl (zzA2 HT_.out) (fun _ _ _ h=>h) (Or.inl ⟨by rfl,?_⟩) ?_ ?_;rotate_left
               ·
                intro w';go_simp;with_reducible rfl
               rotate_left
               ·
                simp only [Act.put,zzq,zzr,zzs,i64_w,i32_w];rfl
               refine done_ (done_of HT_.out (by kernel_rfl)) ?_;have p369 : 0≤(x4_1:Int):=zzt;have q369:x4_1 < (l0.length:Int):=zzt;obtain ⟨ad369,A369_5,c369_5,e369,hx369_0,hx369_1,hx369_2,hx369_3,hx369_4,hx369_5,hl369_5,hi369_5⟩:=Qw HR0.out x4_1 p369 q369
               (try rw [← Nbq12.out] at hx369_0);(try rw [← Nbq12.out] at hw369_0)
               (try rw [← Nbq12.out] at hx369_1);(try rw [← Nbq12.out] at hw369_1);obtain rfl:ad363=ad369:=(by injection e369)
               (try (have ea_:=Option.some.inj (hx369_5.symm.trans hw364_5);injection ea_ with ea_ en_ ec_;subst ea_;subst ec_;clear en_));replace hx369_0:=zzx HB.out hx369_0;replace hx369_1:=zzx HB.out hx369_1;replace hx369_2:=zzx HB.out hx369_2;replace hx369_3:=zzx HB.out hx369_3;replace hx369_4:=zzx HB.out hx369_4;replace hx369_5:=zzx HB.out hx369_5;have HR369_5:=zzm hi369_5;have HC369_5:=zzm hl369_5;clear hi369_5 hl369_5;replace p369:=eq_true p369;replace q369:=eq_true q369;have p370 : 0≤(x5_3:Int):=zzt;have q370:x5_3 < (((Qa l0 x4_1).f5).length:Int):=zzt;obtain ⟨ad370,A370_3,c370_3,A370_5,c370_5,e370,hx370_0,hx370_1,hx370_2,hx370_3,hx370_4,hx370_5,hl370_3,hi370_3,hl370_5,hi370_5⟩:=Qy HR369_5.out x5_3 p370 q370
               (try rw [← Nbq12.out] at hx370_2);(try rw [← Nbq12.out] at hw370_2)
               (try rw [← Nbq12.out] at hx370_4);(try rw [← Nbq12.out] at hw370_4);cases e370
               (try (have ea_:=Option.some.inj (hx370_3.symm.trans hw367_3);injection ea_ with ea_ en_ ec_;subst ea_;subst ec_;clear en_))
               (try (have ea_:=Option.some.inj (hx370_5.symm.trans hw367_5);injection ea_ with ea_ en_ ec_;subst ea_;subst ec_;clear en_));replace hx370_0:=zzx HB.out hx370_0;replace hx370_1:=zzx HB.out hx370_1;replace hx370_2:=zzx HB.out hx370_2;replace hx370_3:=zzx HB.out hx370_3;replace hx370_4:=zzx HB.out hx370_4;replace hx370_5:=zzx HB.out hx370_5;have HR370_3:=zzm hi370_3;have HC370_3:=zzm hl370_3;clear hi370_3 hl370_3;have HR370_5:=zzm hi370_5;have HC370_5:=zzm hl370_5;clear hi370_5 hl370_5;replace p370:=eq_true p370;replace q370:=eq_true q370;try go_wp2_with (first|((with_reducible refine gate_callee (f:=45) rfl ?_);refine goesL_ (some 58) rfl rfl Try.func45 (by kernel_rfl) rfl #[.agg #[.int .i64 ((Qb ((Qa l0 x4_1).f5) x5_3).f0),.int .i64 ((Qb ((Qa l0 x4_1).f5) x5_3).f1),.bool ((Qb ((Qa l0 x4_1).f5) x5_3).f2),.slice A370_3 ((Qb ((Qa l0 x4_1).f5) x5_3).f3).length c370_3,.bool ((Qb ((Qa l0 x4_1).f5) x5_3).f4),.slice A370_5 ((Qb ((Qa l0 x4_1).f5) x5_3).f5).length c370_5]] rfl zzM2 ?_;(with_reducible refine (Q9.calls ((Qb ((Qa l0 x4_1).f5) x5_3).f0) ((Qb ((Qa l0 x4_1).f5) x5_3).f1) ((Qb ((Qa l0 x4_1).f5) x5_3).f2) _ _ ((Qb ((Qa l0 x4_1).f5) x5_3).f3) ((Qb ((Qa l0 x4_1).f5) x5_3).f4) _ _ ((Qb ((Qa l0 x4_1).f5) x5_3).f5) t371 t372 t373 t374 t377 t378 _ ?side1 ?side2 ?side3 ?side4 A18.out).mono ?_);(case side1=>repeat (first|exact (Kd.C_below HR370_3.out HB.out)|(with_reducible refine Kd.C_alloc ?_ _)|(with_reducible refine Kd.C_drewN ?_ _)|(with_reducible refine Kd.C_drew ?_)));(case side2=>exact HC370_3.out);(case side3=>repeat (first|exact (Kd.C_below HR370_5.out HB.out)|(with_reducible refine Kd.C_alloc ?_ _)|(with_reducible refine Kd.C_drewN ?_ _)|(with_reducible refine Kd.C_drew ?_)));(case side4=>exact HC370_5.out);rintro e w22 ⟨v375,v379,rfl,ho0,ho1,hb⟩;refine ⟨_,rfl,?_⟩;have n0_:=zzm (Kd.S_mono (Kd.S_told (Kd.S_told (Kd.S_old (zzS HO_3.out) hb) (Kd.R_base ho0)) (Kd.R_base ho1)) (fun _ h_=>h_.1));have n1_:=zzm (Kd.R_lower ho0 (zzo zzh1));have n2_:=zzm (Kd.R_lower ho1 (zzo zzh1));have n3_:=zzm (zzp zzh1 hb);clear HO_3 HB;have HO_3:=n0_;have HO376:=n1_;have HO380:=n2_;have HB:=n3_;clear n0_ n1_ n2_ n3_;(try clear hb);(try clear hb2);(try clear hk);(try clear hi);(try clear ho0);(try clear ho1);obtain ⟨Ao24,co24,eo24⟩:=Kd.R_slice HO376.out;subst eo24;obtain ⟨Ao25,co25,eo25⟩:=Kd.R_slice HO380.out;subst eo25)|((with_reducible refine gate_builtin (b:=.append) (xs:=#[.tmp 49,.tmp 59]) rfl ?_);at_builtin;refine Kd.S_append k30 (w0:=w) w.heap.size rfl (.tmp 49) (.tmp 59) 25 30 (.agg #[(.int .i64 0),(.int .i64 0),(.bool false),(.slice none 0 0),(.bool false),(.slice none 0 0)]) 80 rfl Try.underlying25 info30 rfl (by decide) (by omega) u3 x3_3 (⟨t371,t372,t373,t374,t377,t378⟩:S30) [.int .i64 t371,.int .i64 t372,.bool t373,.slice Ao24 t374.length co24,.bool t377,.slice Ao25 t378.length co25] (fun _=>True) (fun k_=>some k_=(.slice Ao24 t374.length co24:Value).ownBlock∨some k_=(.slice Ao25 t378.length co25:Value).ownBlock) rfl rfl ?aP (fun k_ hk_=>hk_.elim (fun h_=>((Kd.R_mono (ok':=fun k_=>((fun _=>True)) k_∧some k_≠(u3:Value).ownBlock) (Kd.R_apart' (HO376.out) (Kd.S_typed HO_3.out) (by decide)) (fun k_ hk=>⟨trivial,hk.2⟩))).1 k_ h_.symm) (fun h_=>((Kd.R_mono (ok':=fun k_=>((fun _=>True)) k_∧some k_≠(u3:Value).ownBlock) (Kd.R_apart' (HO380.out) (Kd.S_typed HO_3.out) (by decide)) (fun k_ hk=>⟨trivial,hk.2⟩))).1 k_ h_.symm)) ?aF ?aO ?aB ?aS ?aL ?_;(case aP=>exact k30_mkM _ _ _ (⟨t371,t372,t373,t374,t377,t378⟩:S30) (Kd.R_mono (Kd.R_tight rfl (Kd.R_mono (ok':=fun k_=>((fun _=>True)) k_∧some k_≠(u3:Value).ownBlock) (Kd.R_apart' (HO376.out) (Kd.S_typed HO_3.out) (by decide)) (fun k_ hk=>⟨trivial,hk.2⟩))) (fun _ h_=>Or.inl h_)) (Kd.R_mono (Kd.R_tight rfl (Kd.R_mono (ok':=fun k_=>((fun _=>True)) k_∧some k_≠(u3:Value).ownBlock) (Kd.R_apart' (HO380.out) (Kd.S_typed HO_3.out) (by decide)) (fun k_ hk=>⟨trivial,hk.2⟩))) (fun _ h_=>Or.inr (h_))));(case aB=>exact zzh1);(case aF=>exact (fun _ _=>trivial));(case aO=>exact (zzS (Kd.S_mono HO_3.out (fun k_ hk=>⟨trivial,fun e_=>e_.elim (fun h_=>hk.1.2 h_) (fun h_=>hk.2 h_)⟩))));(case aS=>exact (zzo zzh1));(case aL=>have:=LMc19.out;omega);intro v382 w23 ho hb hg hat;rw [← Ny381.out] at ho;have n0_:=zzm (hb);have n1_:=zzm (ho);clear HB HO_3 HO376 HO380;have HB:=n0_;have HO383:=n1_;clear n0_ n1_ ho hb hg hat))
               go_roundg k3
               case measure=>have:=HK1.out;have:=HJ3.out;have:=HK3.out;omega
               case rel=>exact ⟨(y381),(wrap64 (x5_3+1)),(by first|rfl|(simp;done)|(simp [*];done)),H',⟨by have:=HK1.out;have:=HJ3.out;have:=HK3.out;omega⟩,⟨by (with_reducible repeat (first|apply Kd.S_alloc|apply Kd.S_drewN|apply Kd.S_drew));exact HO383.out⟩,⟨zzh1⟩⟩
              ·
               rw [if_neg c19] at H;exact absurd H (by simp)
             ·
              replace c17:=Bool.eq_false_iff.mpr c17;subst c17;have H1:(Qf.l1 k3 l0 x3_3 x4_1 (wrap64 (x5_3+1)))=some r:=by rw [if_neg (show ¬ (false=true) by decide)] at H;exact H
              clear H;have H:=H1;clear H1;have H':=zzm H;clear H;have p363 : 0≤(x4_1:Int):=zzt;have q363:x4_1 < (l0.length:Int):=zzt;obtain ⟨ad363,A363_5,c363_5,e363,hx363_0,hx363_1,hx363_2,hx363_3,hx363_4,hx363_5,hl363_5,hi363_5⟩:=Qw HR0.out x4_1 p363 q363
              (try rw [← Nbq12.out] at hx363_0);(try rw [← Nbq12.out] at hw363_0)
              (try rw [← Nbq12.out] at hx363_1);(try rw [← Nbq12.out] at hw363_1);cases e363;replace hx363_0:=zzx HB.out hx363_0;replace hx363_1:=zzx HB.out hx363_1;replace hx363_2:=zzx HB.out hx363_2;replace hx363_3:=zzx HB.out hx363_3;replace hx363_4:=zzx HB.out hx363_4;replace hx363_5:=zzx HB.out hx363_5;have HR363_5:=zzm hi363_5;have HC363_5:=zzm hl363_5;clear hi363_5 hl363_5;replace p363:=eq_true p363;replace q363:=eq_true q363;try go_wp2
              have n0_:=zzm (Kd.S_drew HO_3.out);have n1_:=zzm (zzc HB.out);clear HO_3 HB;have HO_3:=n0_;have HB:=n1_;clear n0_ n1_;have p364 : 0≤(x4_1:Int):=zzt;have q364:x4_1 < (l0.length:Int):=zzt;obtain ⟨ad364,A364_5,c364_5,e364,hx364_0,hx364_1,hx364_2,hx364_3,hx364_4,hx364_5,hl364_5,hi364_5⟩:=Qw HR0.out x4_1 p364 q364;have hw364_5:=hx364_5;have hw364_4:=hx364_4;have hw364_3:=hx364_3;have hw364_2:=hx364_2;have hw364_1:=hx364_1;have hw364_0:=hx364_0
              (try rw [← Nbq12.out] at hx364_0);(try rw [← Nbq12.out] at hw364_0)
              (try rw [← Nbq12.out] at hx364_1);(try rw [← Nbq12.out] at hw364_1);obtain rfl:ad363=ad364:=(by injection e364);replace hx364_0:=zzx HB.out hx364_0;replace hx364_1:=zzx HB.out hx364_1;replace hx364_2:=zzx HB.out hx364_2;replace hx364_3:=zzx HB.out hx364_3;replace hx364_4:=zzx HB.out hx364_4;replace hx364_5:=zzx HB.out hx364_5;have HR364_5:=zzm hi364_5;have HC364_5:=zzm hl364_5;clear hi364_5 hl364_5;replace p364:=eq_true p364;replace q364:=eq_true q364;have p365 : 0≤(x4_1:Int):=zzt;have q365:x4_1 < (l0.length:Int):=zzt;obtain ⟨ad365,A365_5,c365_5,e365,hx365_0,hx365_1,hx365_2,hx365_3,hx365_4,hx365_5,hl365_5,hi365_5⟩:=Qw HR0.out x4_1 p365 q365;have hw365_5:=hx365_5;have hw365_4:=hx365_4;have hw365_3:=hx365_3;have hw365_2:=hx365_2;have hw365_1:=hx365_1;have hw365_0:=hx365_0
              (try rw [← Nbq12.out] at hx365_0);(try rw [← Nbq12.out] at hw365_0)
              (try rw [← Nbq12.out] at hx365_1);(try rw [← Nbq12.out] at hw365_1);obtain rfl:ad363=ad365:=(by injection e365);replace hx365_0:=zzx HB.out hx365_0;replace hx365_1:=zzx HB.out hx365_1;replace hx365_2:=zzx HB.out hx365_2;replace hx365_3:=zzx HB.out hx365_3;replace hx365_4:=zzx HB.out hx365_4;replace hx365_5:=zzx HB.out hx365_5;have HR365_5:=zzm hi365_5;have HC365_5:=zzm hl365_5;clear hi365_5 hl365_5;replace p365:=eq_true p365;replace q365:=eq_true q365;have ea_:=Option.some.inj (hx364_5.symm.trans hx365_5);injection ea_ with ea_ en_ ec_;subst ea_;subst ec_;clear en_;have p366 : 0≤(x4_1:Int):=zzt;have q366:x4_1 < (l0.length:Int):=zzt;obtain ⟨ad366,A366_5,c366_5,e366,hx366_0,hx366_1,hx366_2,hx366_3,hx366_4,hx366_5,hl366_5,hi366_5⟩:=Qw HR0.out x4_1 p366 q366;have hw366_5:=hx366_5;have hw366_4:=hx366_4;have hw366_3:=hx366_3;have hw366_2:=hx366_2;have hw366_1:=hx366_1;have hw366_0:=hx366_0
              (try rw [← Nbq12.out] at hx366_0);(try rw [← Nbq12.out] at hw366_0)
              (try rw [← Nbq12.out] at hx366_1);(try rw [← Nbq12.out] at hw366_1);obtain rfl:ad363=ad366:=(by injection e366);replace hx366_0:=zzx HB.out hx366_0;replace hx366_1:=zzx HB.out hx366_1;replace hx366_2:=zzx HB.out hx366_2;replace hx366_3:=zzx HB.out hx366_3;replace hx366_4:=zzx HB.out hx366_4;replace hx366_5:=zzx HB.out hx366_5;have HR366_5:=zzm hi366_5;have HC366_5:=zzm hl366_5;clear hi366_5 hl366_5;replace p366:=eq_true p366;replace q366:=eq_true q366;have ea_:=Option.some.inj (hx364_5.symm.trans hx366_5);injection ea_ with ea_ en_ ec_;subst ea_;subst ec_;clear en_;have p367 : 0≤(x5_3:Int):=zzt;have q367:x5_3 < (((Qa l0 x4_1).f5).length:Int):=zzt;obtain ⟨ad367,A367_3,c367_3,A367_5,c367_5,e367,hx367_0,hx367_1,hx367_2,hx367_3,hx367_4,hx367_5,hl367_3,hi367_3,hl367_5,hi367_5⟩:=Qy HR366_5.out x5_3 p367 q367;have hw367_5:=hx367_5;have hw367_4:=hx367_4;have hw367_3:=hx367_3;have hw367_2:=hx367_2;have hw367_1:=hx367_1;have hw367_0:=hx367_0
              (try rw [← Nbq12.out] at hx367_2);(try rw [← Nbq12.out] at hw367_2)
              (try rw [← Nbq12.out] at hx367_4);(try rw [← Nbq12.out] at hw367_4);cases e367;replace hx367_0:=zzx HB.out hx367_0;replace hx367_1:=zzx HB.out hx367_1;replace hx367_2:=zzx HB.out hx367_2;replace hx367_3:=zzx HB.out hx367_3;replace hx367_4:=zzx HB.out hx367_4;replace hx367_5:=zzx HB.out hx367_5;have HR367_3:=zzm hi367_3;have HC367_3:=zzm hl367_3;clear hi367_3 hl367_3;have HR367_5:=zzm hi367_5;have HC367_5:=zzm hl367_5;clear hi367_5 hl367_5;replace p367:=eq_true p367;replace q367:=eq_true q367;refine start_ (n:=22) (S:=fun w'=>w'.cell? (ad363.add ((x4_1).toNat * 6))=some (.bool ((Qa l0 x4_1).f0))∧w'.cell? ⟨(ad363.add ((x4_1).toNat * 6)).block,(ad363.add ((x4_1).toNat * 6)).off+1,none⟩=some (.bool false)∧w'.cell? ⟨(ad363.add ((x4_1).toNat * 6)).block,(ad363.add ((x4_1).toNat * 6)).off+2,none⟩=some (.int .i64 ((Qa l0 x4_1).f2))∧w'.cell? ⟨(ad363.add ((x4_1).toNat * 6)).block,(ad363.add ((x4_1).toNat * 6)).off+3,none⟩=some (.int .i64 ((Qa l0 x4_1).f3))∧w'.cell? ⟨(ad363.add ((x4_1).toNat * 6)).block,(ad363.add ((x4_1).toNat * 6)).off+4,none⟩=some (.int .i64 ((Qa l0 x4_1).f4))∧w'.cell? ⟨(ad363.add ((x4_1).toNat * 6)).block,(ad363.add ((x4_1).toNat * 6)).off+5,none⟩=some (.slice (some ad367) ((Qa l0 x4_1).f5).length c364_5)∧w'.cell? (ad363.add ((x4_1).toNat * 6))=some (.bool ((Qa l0 x4_1).f0))∧w'.cell? ⟨(ad363.add ((x4_1).toNat * 6)).block,(ad363.add ((x4_1).toNat * 6)).off+1,none⟩=some (.bool (false))∧w'.cell? ⟨(ad363.add ((x4_1).toNat * 6)).block,(ad363.add ((x4_1).toNat * 6)).off+2,none⟩=some (.int .i64 ((Qa l0 x4_1).f2))∧w'.cell? ⟨(ad363.add ((x4_1).toNat * 6)).block,(ad363.add ((x4_1).toNat * 6)).off+3,none⟩=some (.int .i64 ((Qa l0 x4_1).f3))∧w'.cell? ⟨(ad363.add ((x4_1).toNat * 6)).block,(ad363.add ((x4_1).toNat * 6)).off+4,none⟩=some (.int .i64 ((Qa l0 x4_1).f4))∧w'.cell? ⟨(ad363.add ((x4_1).toNat * 6)).block,(ad363.add ((x4_1).toNat * 6)).off+5,none⟩=some (.slice (some ad367) ((Qa l0 x4_1).f5).length c364_5)∧w'.cell? (ad363.add ((x4_1).toNat * 6))=some (.bool ((Qa l0 x4_1).f0))∧w'.cell? ⟨(ad363.add ((x4_1).toNat * 6)).block,(ad363.add ((x4_1).toNat * 6)).off+1,none⟩=some (.bool (false))∧w'.cell? ⟨(ad363.add ((x4_1).toNat * 6)).block,(ad363.add ((x4_1).toNat * 6)).off+2,none⟩=some (.int .i64 ((Qa l0 x4_1).f2))∧w'.cell? ⟨(ad363.add ((x4_1).toNat * 6)).block,(ad363.add ((x4_1).toNat * 6)).off+3,none⟩=some (.int .i64 ((Qa l0 x4_1).f3))∧w'.cell? ⟨(ad363.add ((x4_1).toNat * 6)).block,(ad363.add ((x4_1).toNat * 6)).off+4,none⟩=some (.int .i64 ((Qa l0 x4_1).f4))∧w'.cell? ⟨(ad363.add ((x4_1).toNat * 6)).block,(ad363.add ((x4_1).toNat * 6)).off+5,none⟩=some (.slice (some ad367) ((Qa l0 x4_1).f5).length c364_5)∧w'.cell? (ad367.add ((x5_3).toNat * 6))=some (.int .i64 ((Qb ((Qa l0 x4_1).f5) x5_3).f0))∧w'.cell? ⟨(ad367.add ((x5_3).toNat * 6)).block,(ad367.add ((x5_3).toNat * 6)).off+1,none⟩=some (.int .i64 ((Qb ((Qa l0 x4_1).f5) x5_3).f1))∧w'.cell? ⟨(ad367.add ((x5_3).toNat * 6)).block,(ad367.add ((x5_3).toNat * 6)).off+2,none⟩=some (.bool ((Qb ((Qa l0 x4_1).f5) x5_3).f2))∧w'.cell? ⟨(ad367.add ((x5_3).toNat * 6)).block,(ad367.add ((x5_3).toNat * 6)).off+3,none⟩=some (.slice A367_3 ((Qb ((Qa l0 x4_1).f5) x5_3).f3).length c367_3)∧w'.cell? ⟨(ad367.add ((x5_3).toNat * 6)).block,(ad367.add ((x5_3).toNat * 6)).off+4,none⟩=some (.bool ((Qb ((Qa l0 x4_1).f5) x5_3).f4))∧w'.cell? ⟨(ad367.add ((x5_3).toNat * 6)).block,(ad367.add ((x5_3).toNat * 6)).off+5,none⟩=some (.slice A367_5 ((Qb ((Qa l0 x4_1).f5) x5_3).f5).length c367_5)) (ds:=[]) (zzB 22 0) (by kernel_rfl) rfl rfl ⟨(zzx HB.out hw364_0),(zzx HB.out hw364_1),(zzx HB.out hw364_2),(zzx HB.out hw364_3),(zzx HB.out hw364_4),(zzx HB.out hw364_5),(zzx HB.out hw365_0),(zzx HB.out hw365_1),(zzx HB.out hw365_2),(zzx HB.out hw365_3),(zzx HB.out hw365_4),(zzx HB.out hw365_5),(zzx HB.out hw366_0),(zzx HB.out hw366_1),(zzx HB.out hw366_2),(zzx HB.out hw366_3),(zzx HB.out hw366_4),(zzx HB.out hw366_5),(zzx HB.out hw367_0),(zzx HB.out hw367_1),(zzx HB.out hw367_2),(zzx HB.out hw367_3),(zzx HB.out hw367_4),(zzx HB.out hw367_5)⟩ (fun hHeld=>?_);refine with_tabW Qf.tab8 Qf.bits8 (fun HT_ HW_=>?_);generalize wr.drew=w26 at HO_3 HB HR364_5 HR365_5 HR366_5 HR367_3 HR367_5 hx364_0 hx364_1 hx364_2 hx364_3 hx364_4 hx364_5 hx365_0 hx365_1 hx365_2 hx365_3 hx365_4 hx365_5 hx366_0 hx366_1 hx366_2 hx366_3 hx366_4 hx366_5 hx367_0 hx367_1 hx367_2 hx367_3 hx367_4 hx367_5 hHeld ⊢;refine pure_ (i:=0) (N:=some 27) (v:=?_) (a':=?_) (zzB 22 1) rfl rfl (zzA2 HT_.out) (fun _ _ _ h=>h) (Or.inl ⟨by rfl,?_⟩) ?_ ?_;rotate_left
              ·
               intro w';go_simp;with_reducible rfl
              rotate_left
              ·
               simp only [Act.put,zzq,zzr,zzs,i64_w,i32_w];rfl
              refine pure_ (i:=1) (N:=some 28) (v:=?_) (a':=?_) (zzB 22 3) rfl rfl (zzA2 HT_.out) (fun _ _ _ h=>h) (Or.inl ⟨by rfl,?_⟩) ?_ ?_;rotate_left
              ·
               intro w';go_simp;with_reducible rfl
              rotate_left
              ·
               simp only [Act.put,zzq,zzr,zzs,i64_w,i32_w];rfl
              refine pure_ (i:=2) (N:=some 29) (v:=?_) (a':=?_) (zzB 22 7) rfl rfl (zzA2 HT_.out) (fun _ _ _ h=>h) (Or.inl ⟨by rfl,?_⟩) ?_ ?_;rotate_left
              ·
               intro w';go_simp;with_reducible rfl
              rotate_left
              ·
               simp only [Act.put,zzq,zzr,zzs,i64_w,i32_w];rfl
              refine pure_ (i:=3) (N:=some 30) (v:=?_) (a':=?_) (zzB 22 15) rfl rfl (zzA2 HT_.out) (fun _ _ _ h=>h) (Or.inl ⟨by rfl,?_⟩) ?_ ?_;rotate_left
              ·
               intro w';go_simp;with_reducible rfl
              rotate_left
              ·
               simp only [Act.put,zzq,zzr,zzs,i64_w,i32_w];rfl
              refine take_ (i:=4) (N:=some 31) (v:=?_) (a':=?_) (zzB 22 31) rfl rfl (take_ofW HT_.out HW_.out (by kernel_rfl)) (fun _ _ _ h=>h) (Or.inl ⟨by rfl,?_⟩) hHeld ?_ ?_;rotate_left
              ·
               rintro w' ⟨s0,s1,s2,s3,s4,s5,s6,s7,s8,s9,s10,s11,s12,s13,s14,s15,s16,s17,s18,s19,s20,s21,s22,s23⟩;go_simp;with_reducible rfl
              rotate_left
              ·
               simp only [Act.put,zzq,zzr,zzs,i64_w,i32_w];rfl
              refine pure_ (i:=5) (N:=some 32) (v:=?_) (a':=?_) (zzB 22 63) rfl rfl (zzA2 HT_.out) (fun _ _ _ h=>h) (Or.inl ⟨by rfl,?_⟩) ?_ ?_;rotate_left
              ·
               intro w';go_simp;with_reducible rfl
              rotate_left
              ·
               simp only [Act.put,zzq,zzr,zzs,i64_w,i32_w];rfl
              refine pure_ (i:=6) (N:=some 33) (v:=?_) (a':=?_) (zzB 22 127) rfl rfl (zzA2 HT_.out) (fun _ _ _ h=>h) (Or.inl ⟨by rfl,?_⟩) ?_ ?_;rotate_left
              ·
               intro w';go_simp;with_reducible rfl
              rotate_left
              ·
               simp only [Act.put,zzq,zzr,zzs,i64_w,i32_w];rfl
              refine pure_ (i:=7) (N:=some 34) (v:=?_) (a':=?_) (zzB 22 255) rfl rfl (zzA2 HT_.out) (fun _ _ _ h=>h) (Or.inl ⟨by rfl,?_⟩) ?_ ?_;rotate_left
              ·
               intro w';go_simp;with_reducible rfl
              rotate_left
              ·
               simp only [Act.put,zzq,zzr,zzs,i64_w,i32_w];rfl
              refine pure_ (i:=8) (N:=some 35) (v:=?_) (a':=?_) (zzB 22 511) rfl rfl (zzA2 HT_.out) (fun _ _ _ h=>h) (Or.inl ⟨by rfl,?_⟩) ?_ ?_;rotate_left
              ·
               intro w';go_simp;with_reducible rfl
              rotate_left
              ·
               simp only [Act.put,zzq,zzr,zzs,i64_w,i32_w];rfl
              refine pure_ (i:=9) (N:=some 36) (v:=?_) (a':=?_) (zzB 22 1023) rfl rfl (zzA2 HT_.out) (fun _ _ _ h=>h) (Or.inl ⟨by rfl,?_⟩) ?_ ?_;rotate_left
              ·
               intro w';go_simp;with_reducible rfl
              rotate_left
              ·
               simp only [Act.put,zzq,zzr,zzs,i64_w,i32_w];rfl
              refine pure_ (i:=10) (N:=some 37) (v:=?_) (a':=?_) (zzB 22 2047) rfl rfl (zzA2 HT_.out) (fun _ _ _ h=>h) (Or.inl ⟨by rfl,?_⟩) ?_ ?_;rotate_left
              ·
               intro w';go_simp;with_reducible rfl
              rotate_left
              ·
               simp only [Act.put,zzq,zzr,zzs,i64_w,i32_w];rfl
              refine pure_ (i:=12) (N:=some 39) (v:=?_) (a':=?_) (zzB 22 6143) rfl rfl (zzA2 HT_.out) (fun _ _ _ h=>h) (Or.inl ⟨by rfl,?_⟩) ?_ ?_;rotate_left
              ·
               intro w';go_simp;with_reducible rfl
              rotate_left
              ·
               simp only [Act.put,zzq,zzr,zzs,i64_w,i32_w];rfl
              refine pure_ (i:=13) (N:=some 40) (v:=?_) (a':=?_) (zzB 22 14335) rfl rfl (zzA2 HT_.out) (fun _ _ _ h=>h) (Or.inl ⟨by rfl,?_⟩) ?_ ?_;rotate_left
              ·
               intro w';go_simp;with_reducible rfl
              rotate_left
              ·
               simp only [Act.put,zzq,zzr,zzs,i64_w,i32_w];rfl
              refine pure_ (i:=14) (N:=some 41) (v:=?_) (a':=?_) (zzB 22 30719) rfl rfl (zzA2 HT_.out) (fun _ _ _ h=>h) (Or.inl ⟨by rfl,?_⟩) ?_ ?_;rotate_left
              ·
               intro w';go_simp;with_reducible rfl
              rotate_left
              ·
               simp only [Act.put,zzq,zzr,zzs,i64_w,i32_w];rfl
              refine pure_ (i:=15) (N:=some 42) (v:=?_) (a':=?_) (zzB 22 63487) rfl rfl (zzA2 HT_.out) (fun _ _ _ h=>h) (Or.inl ⟨by rfl,?_⟩) ?_ ?_;rotate_left
              ·
               intro w';go_simp;with_reducible rfl
              rotate_left
              ·
               simp only [Act.put,zzq,zzr,zzs,i64_w,i32_w];rfl
              refine pure_ (i:=17) (N:=some 44) (v:=?_) (a':=?_) (zzB 22 194559) rfl rfl (zzA2 HT_.out) (fun _ _ _ h=>h) (Or.inl ⟨by rfl,?_⟩) ?_ ?_;rotate_left
              ·
               intro w';go_simp;with_reducible rfl
              rotate_left
              ·
               simp only [Act.put,zzq,zzr,zzs,i64_w,i32_w];rfl
              refine take_ (i:=11) (N:=some 38) (v:=?_) (a':=?_) (zzB 22 196607) rfl rfl (take_ofW HT_.out HW_.out (by kernel_rfl)) (fun _ _ _ h=>h) (Or.inl ⟨by rfl,?_⟩) hHeld ?_ ?_;rotate_left
              ·
               rintro w' ⟨s0,s1,s2,s3,s4,s5,s6,s7,s8,s9,s10,s11,s12,s13,s14,s15,s16,s17,s18,s19,s20,s21,s22,s23⟩;go_simp;with_reducible rfl
              rotate_left
              ·
               simp only [Act.put,zzq,zzr,zzs,i64_w,i32_w];rfl
              refine take_ (i:=16) (N:=some 43) (v:=?_) (a':=?_) (zzB 22 262143) rfl rfl (take_ofW HT_.out HW_.out (by kernel_rfl)) (fun _ _ _ h=>h) (Or.inl ⟨by rfl,?_⟩) hHeld ?_ ?_;rotate_left
              ·
               rintro w' ⟨s0,s1,s2,s3,s4,s5,s6,s7,s8,s9,s10,s11,s12,s13,s14,s15,s16,s17,s18,s19,s20,s21,s22,s23⟩;go_simp;with_reducible rfl
              rotate_left
              ·
               simp only [Act.put,zzq,zzr,zzs,i64_w,i32_w];rfl
              refine pure_ (i:=18) (N:=some 45) (v:=?_) (a':=?_) (zzB 22 524287) rfl rfl (zzA2 HT_.out) (fun _ _ _ h=>h) (Or.inl ⟨by rfl,?_⟩) ?_ ?_;rotate_left
              ·
               intro w';go_simp;with_reducible rfl
              rotate_left
              ·
               simp only [Act.put,zzq,zzr,zzs,i64_w,i32_w];rfl
              refine take_ (i:=19) (N:=some 46) (v:=?_) (a':=?_) (zzB 22 1048575) rfl rfl (take_ofW HT_.out HW_.out (by kernel_rfl)) (fun _ _ _ h=>h) (Or.inl ⟨by rfl,?_⟩) hHeld ?_ ?_;rotate_left
              ·
               rintro w' ⟨s0,s1,s2,s3,s4,s5,s6,s7,s8,s9,s10,s11,s12,s13,s14,s15,s16,s17,s18,s19,s20,s21,s22,s23⟩;go_simp;with_reducible rfl
              rotate_left
              ·
               simp only [Act.put,zzq,zzr,zzs,i64_w,i32_w];rfl
              refine one_ (i:=20) (N:=some 47) (zzB 22 2097151) rfl rfl (one_of HT_.out (by kernel_rfl)) (by decide) (fun K hK=>?_);refine goes_ Try.func44 (by kernel_rfl) rfl #[.slice (some ad363) l0.length c0,.agg #[.bool ((Qa l0 x4_1).f0),.bool false,.int .i64 ((Qa l0 x4_1).f2),.int .i64 ((Qa l0 x4_1).f3),.int .i64 ((Qa l0 x4_1).f4),.slice (some ad367) ((Qa l0 x4_1).f5).length c364_5],.agg #[.int .i64 ((Qb ((Qa l0 x4_1).f5) x5_3).f0),.int .i64 ((Qb ((Qa l0 x4_1).f5) x5_3).f1),.bool ((Qb ((Qa l0 x4_1).f5) x5_3).f2),.slice A367_3 ((Qb ((Qa l0 x4_1).f5) x5_3).f3).length c367_3,.bool ((Qb ((Qa l0 x4_1).f5) x5_3).f4),.slice A367_5 ((Qb ((Qa l0 x4_1).f5) x5_3).f5).length c367_5],.bool false] (by rfl) rfl rfl zzM2 ?_;with_reducible refine (Rd.calls k3 _ _ l0 ((Qa l0 x4_1).f0) false ((Qa l0 x4_1).f2) ((Qa l0 x4_1).f3) ((Qa l0 x4_1).f4) _ _ ((Qa l0 x4_1).f5) ((Qb ((Qa l0 x4_1).f5) x5_3).f0) ((Qb ((Qa l0 x4_1).f5) x5_3).f1) ((Qb ((Qa l0 x4_1).f5) x5_3).f2) _ _ ((Qb ((Qa l0 x4_1).f5) x5_3).f3) ((Qb ((Qa l0 x4_1).f5) x5_3).f4) _ _ ((Qb ((Qa l0 x4_1).f5) x5_3).f5) false false _ ?side1 ?side2 ?side3 ?side4 ?side5 ?side6 ?side7 ?side8 A16.out).mono ?_
              (case side1=>repeat (first|exact (Kd.C_below HR0.out HB.out)|(with_reducible refine Kd.C_alloc ?_ _)|(with_reducible refine Kd.C_drewN ?_ _)|(with_reducible refine Kd.C_drew ?_)))
              (case side2=>exact HC0.out)
              (case side3=>repeat (first|exact (Kd.C_below HR365_5.out HB.out)|(with_reducible refine Kd.C_alloc ?_ _)|(with_reducible refine Kd.C_drewN ?_ _)|(with_reducible refine Kd.C_drew ?_)))
              (case side4=>exact HC365_5.out)
              (case side5=>repeat (first|exact (Kd.C_below HR367_3.out HB.out)|(with_reducible refine Kd.C_alloc ?_ _)|(with_reducible refine Kd.C_drewN ?_ _)|(with_reducible refine Kd.C_drew ?_)))
              (case side6=>exact HC367_3.out)
              (case side7=>repeat (first|exact (Kd.C_below HR367_5.out HB.out)|(with_reducible refine Kd.C_alloc ?_ _)|(with_reducible refine Kd.C_drewN ?_ _)|(with_reducible refine Kd.C_drew ?_)))
              (case side8=>exact HC367_5.out);rintro e w27 ⟨rfl,hb⟩;refine ⟨_,rfl,?_⟩;have n0_:=zzm (Kd.S_below (zzS HO_3.out) hb);have n1_:=zzm (zzp zzh1 hb);clear HO_3 HB;have HO_3:=n0_;have HB:=n1_;clear n0_ n1_
              (try clear hb)
              (try clear hb2)
              (try clear hk)
              (try clear hi);refine hK.out _ _ ⟨(zzx HB.out hw364_0),(zzx HB.out hw364_1),(zzx HB.out hw364_2),(zzx HB.out hw364_3),(zzx HB.out hw364_4),(zzx HB.out hw364_5),(zzx HB.out hw365_0),(zzx HB.out hw365_1),(zzx HB.out hw365_2),(zzx HB.out hw365_3),(zzx HB.out hw365_4),(zzx HB.out hw365_5),(zzx HB.out hw366_0),(zzx HB.out hw366_1),(zzx HB.out hw366_2),(zzx HB.out hw366_3),(zzx HB.out hw366_4),(zzx HB.out hw366_5),(zzx HB.out hw367_0),(zzx HB.out hw367_1),(zzx HB.out hw367_2),(zzx HB.out hw367_3),(zzx HB.out hw367_4),(zzx HB.out hw367_5)⟩ (fun hHeld=>?_);clear hK K;refine norm_ (a':=?_) ?_ ?_;rotate_left
              ·
               show Act.put _ (some 47) _ = _;simp only [Act.put,zzq,zzr,zzs,i64_w,i32_w];rfl
              refine pure_ (i:=21) (N:=some 48) (v:=?_) (a':=?_) (zzB 22 4194303) rfl rfl (zzA2 HT_.out) (fun _ _ _ h=>h) (Or.inl ⟨by rfl,?_⟩) ?_ ?_;rotate_left
              ·
               intro w';go_simp;with_reducible rfl
              rotate_left
              ·
               simp only [Act.put,zzq,zzr,zzs,i64_w,i32_w];rfl
              refine done_ (done_of HT_.out (by kernel_rfl)) ?_;try go_wp2
              go_roundg k3
              case measure=>have:=HK1.out;have:=HJ3.out;have:=HK3.out;omega
              case rel=>exact ⟨(x3_3),(wrap64 (x5_3+1)),(by first|rfl|(simp;done)|(simp [*];done)),H',⟨by have:=HK1.out;have:=HJ3.out;have:=HK3.out;omega⟩,⟨by (with_reducible repeat (first|apply Kd.S_alloc|apply Kd.S_drewN|apply Kd.S_drew));exact HO_3.out⟩,⟨zzh1⟩⟩
            ·
             rw [if_neg c15] at H;exact absurd H (by simp)
          ·
           rw [if_neg c11] at H;have c11b0:decide (x5_3 < (((Qa l0 x4_1).f5).length:Int))=false:=decide_eq_false c11;clear c11;have H':=zzm H;clear H;have p363 : 0≤(x4_1:Int):=zzt;have q363:x4_1 < (l0.length:Int):=zzt;obtain ⟨ad363,A363_5,c363_5,e363,hx363_0,hx363_1,hx363_2,hx363_3,hx363_4,hx363_5,hl363_5,hi363_5⟩:=Qw HR0.out x4_1 p363 q363;cases e363;replace hx363_0:=zzx HB.out hx363_0;replace hx363_1:=zzx HB.out hx363_1;replace hx363_2:=zzx HB.out hx363_2;replace hx363_3:=zzx HB.out hx363_3;replace hx363_4:=zzx HB.out hx363_4;replace hx363_5:=zzx HB.out hx363_5;have HR363_5:=zzm hi363_5;have HC363_5:=zzm hl363_5;clear hi363_5 hl363_5;replace p363:=eq_true p363;replace q363:=eq_true q363;go_wp2;go_roundg k3
           case measure=>have:=HK1.out;have:=HJ3.out;have:=HK3.out;omega
           case rel=>exact ⟨(x3_3),(wrap64 (x4_1+1)),(by first|rfl|(simp;done)|(simp [*];done)),H',⟨by have:=HK1.out;have:=HJ3.out;have:=HK3.out;omega⟩,⟨by (with_reducible repeat (first|apply Kd.S_alloc|apply Kd.S_drewN|apply Kd.S_drew));exact HO_3.out⟩,⟨zzh1⟩⟩
         ·
          rw [if_neg c10] at H;exact absurd H (by simp)
        ·
         rw [if_neg c9] at H;exact absurd H (by simp)
     ·
      replace c8:=Bool.eq_false_iff.mpr c8;subst c8;have H1:(some x3_1)=some r:=by rw [if_neg (show ¬ (false=true) by decide)] at H;exact H
      clear H;have H:=H1;clear H1;obtain rfl:=Option.some.inj H;go_wp2;go_ret;exact ⟨_,by first|rfl|(simp [errW_none,errW_some] <;> rfl)|(simp [*,errW_none,errW_some] <;> rfl),by (with_reducible repeat (first|apply Kd.S_alloc|apply Kd.S_drewN|apply Kd.S_drew));exact HO_3.out,zzh1⟩
def Qq.l0:Nat→List Int→List Int→Int→Option (Bool)
 | 0,_,_,_=>none
 | k+1,x0,x1,x5=>if x5 < (x0.length:Int) then (if 0≤x5 then (if x5 < (x1.length:Int) then (if (rd x0 x5)=(rd x1 x5) then (Qq.l0 k x0 x1 (wrap64 (x5+1))) else (some false)) else (none)) else (none)) else (some true)
def Qq.f (k:Nat) (l0:List Int) (l1:List Int):Option (Bool):=if (l0.length:Int)=(l1.length:Int) then (Qq.l0 k l0 l1 0) else (some false)
set_option maxHeartbeats 8000000 in
set_option maxRecDepth 100000 in
theorem Qq.calls (k:Nat) (A0:Option Addr) (c0:Nat) (l0:List Int) (A1:Option Addr) (c1:Nat) (l1:List Int) (r:Bool) (w:World) (hr0:Kd.C (Kd.int .i64) w A0 l0.length l0) (hc0:l0.length≤c0) (hr1:Kd.C (Kd.int .i64) w A1 l1.length l1) (hc1:l1.length≤c1) (h:Qq.f k l0 l1=some r) :
  Calls Try.prog 19 #[.slice A0 l0.length c0,.slice A1 l1.length c1] w fun e w'=>e = .returned (.bool r)∧Drawn0 w w':=by
 have HR0:=zzm hr0;have HC0:=zzm hc0;clear hr0 hc0;have HR1:=zzm hr1;have HC1:=zzm hc1;clear hr1 hc1;have H:(if (l0.length:Int)=(l1.length:Int) then (Qq.l0 k l0 l1 0) else (some false))=some r:=h;clear h;by_cases c3:(l0.length:Int)=(l1.length:Int)
 ·
  rw [if_pos c3] at H;have c3b0:((l0.length:Int)==(l1.length:Int))=true:=beq_iff_eq.mpr c3;have c3b1:((l0.length:Int) != (l1.length:Int))=false:=bne_eq_false_iff_eq.mpr c3;have c3b2:(l0.length==l1.length)=true:=by first|simpa using c3|(simp at c3 ⊢;omega)
  clear c3;have H':=zzm H;clear H;go_enter Try.func19,Try.ntmps19;go_wp2;repeat (go_quiet (fail);try go_wp2)
  go_loopg [5] k (fun kq v5 w'=>∃ (x5_1:Int),v5 = .int .i64 x5_1∧Aside0 (Qq.l0 kq l0 l1 x5_1=some r)∧Aside0 (kq≤k)∧Drawn0 w w')
  case atStart=>exact ⟨(0),(by first|rfl|(simp;done)|(simp [*];done)),H',⟨Nat.le_refl _⟩,by repeat (first|exact Drawn0.refl _|apply Drawn0.step)⟩
  case round=>
   clear H';try clear c1
   try clear p2
   try clear c3
   try clear c3b0
   try clear c3b1
   try clear c3b2
   obtain ⟨x5_1,rfl,HA,HK1,⟨m1,rfl⟩⟩:=hrel;cases gk with
   | zero=>exact absurd HA.out (by simp [Qq.l0])
   | succ k1=>
    have H:=HA.out;clear HA;simp only [Qq.l0] at H;by_cases c4:x5_1 < (l0.length:Int)
    ·
     rw [if_pos c4] at H;have c4b0:decide (x5_1 < (l0.length:Int))=true:=decide_eq_true c4;clear c4;by_cases c5 : 0≤x5_1
     ·
      rw [if_pos c5] at H;have c5b0:decide (0≤x5_1)=true:=decide_eq_true c5;clear c5;by_cases c6:x5_1 < (l1.length:Int)
      ·
       rw [if_pos c6] at H;have c6b0:decide (x5_1 < (l1.length:Int))=true:=decide_eq_true c6;clear c6;by_cases c7:(rd l0 x5_1)=(rd l1 x5_1)
       ·
        rw [if_pos c7] at H;have c7b0:((rd l0 x5_1)==(rd l1 x5_1))=true:=beq_iff_eq.mpr c7;have c7b1:((rd l0 x5_1) != (rd l1 x5_1))=false:=bne_eq_false_iff_eq.mpr c7;clear c7;have H':=zzm H;clear H;have p384 : 0≤(x5_1:Int):=zzt;have q384:x5_1 < (l0.length:Int):=zzt;obtain ⟨ad384,e384,hx384_0⟩:=Kd.at_int HR0.out x5_1 p384 q384;cases e384;replace p384:=eq_true p384;replace q384:=eq_true q384;have p385 : 0≤(x5_1:Int):=zzt;have q385:x5_1 < (l1.length:Int):=zzt;obtain ⟨ad385,e385,hx385_0⟩:=Kd.at_int HR1.out x5_1 p385 q385;cases e385;replace p385:=eq_true p385;replace q385:=eq_true q385;go_wp2;repeat (go_quiet (fail);try go_wp2)
        go_roundg k1
        case measure=>have:=HK1.out;omega
        case rel=>exact ⟨(wrap64 (x5_1+1)),(by first|rfl|(simp;done)|(simp [*];done)),H',⟨by have:=HK1.out;omega⟩,by repeat (first|exact Drawn0.refl _|apply Drawn0.step)⟩
       ·
        rw [if_neg c7] at H;have c7b0:((rd l0 x5_1)==(rd l1 x5_1))=false:=beq_eq_false_iff_ne.mpr c7;have c7b1:((rd l0 x5_1) != (rd l1 x5_1))=true:=bne_iff_ne.mpr c7;obtain rfl:=Option.some.inj H;have p384 : 0≤(x5_1:Int):=zzt;have q384:x5_1 < (l0.length:Int):=zzt;obtain ⟨ad384,e384,hx384_0⟩:=Kd.at_int HR0.out x5_1 p384 q384;cases e384;replace p384:=eq_true p384;replace q384:=eq_true q384;have p385 : 0≤(x5_1:Int):=zzt;have q385:x5_1 < (l1.length:Int):=zzt;obtain ⟨ad385,e385,hx385_0⟩:=Kd.at_int HR1.out x5_1 p385 q385;cases e385;replace p385:=eq_true p385;replace q385:=eq_true q385;go_wp2;repeat (go_quiet (fail);try go_wp2)
        go_ret;exact ⟨by first|rfl|(simp;done)|(simp [*];done),by repeat (first|exact Drawn0.refl _|apply Drawn0.step)⟩
      ·
       rw [if_neg c6] at H;exact absurd H (by simp)
     ·
      rw [if_neg c5] at H;exact absurd H (by simp)
    ·
     rw [if_neg c4] at H;have c4b0:decide (x5_1 < (l0.length:Int))=false:=decide_eq_false c4;clear c4;obtain rfl:=Option.some.inj H;go_wp2;repeat (go_quiet (fail);try go_wp2)
     go_ret;exact ⟨by first|rfl|(simp;done)|(simp [*];done),by repeat (first|exact Drawn0.refl _|apply Drawn0.step)⟩
 ·
  rw [if_neg c3] at H;have c3b0:((l0.length:Int)==(l1.length:Int))=false:=beq_eq_false_iff_ne.mpr c3;have c3b1:((l0.length:Int) != (l1.length:Int))=true:=bne_iff_ne.mpr c3;have c3b2:(l0.length==l1.length)=false:=by first|simpa using c3|(simp at c3 ⊢;omega)
  obtain rfl:=Option.some.inj H;go_enter Try.func19,Try.ntmps19;go_wp2;repeat (go_quiet (fail);try go_wp2)
  go_ret;exact ⟨by first|rfl|(simp;done)|(simp [*];done),by repeat (first|exact Drawn0.refl _|apply Drawn0.step)⟩
def Rb.f (k:Nat) (a0_0:Int) (a0_1:Int) (a0_2:Bool) (l0_3:List Int) (a0_4:Bool) (l0_5:List Int) (a1_0:Int) (a1_1:Int) (a1_2:Bool) (l1_3:List Int) (a1_4:Bool) (l1_5:List Int):Option (Bool):=if a0_0=a1_0 then (if a0_1=a1_1 then (if (a0_2==a1_2)=true then (if (a0_4==a1_4)=true then ((Qq.f k l0_3 l1_3).bind fun t388=>(if t388=true then ((Qq.f k l0_5 l1_5).bind fun t389=>(some t389)) else (some false))) else (some false)) else (some false)) else (some false)) else (some false)
set_option maxHeartbeats 8000000 in
set_option maxRecDepth 100000 in
theorem Rb.calls (k:Nat) (a0_0:Int) (a0_1:Int) (a0_2:Bool) (A0_3:Option Addr) (c0_3:Nat) (l0_3:List Int) (a0_4:Bool) (A0_5:Option Addr) (c0_5:Nat) (l0_5:List Int) (a1_0:Int) (a1_1:Int) (a1_2:Bool) (A1_3:Option Addr) (c1_3:Nat) (l1_3:List Int) (a1_4:Bool) (A1_5:Option Addr) (c1_5:Nat) (l1_5:List Int) (r:Bool) (w:World) (hr0_3:Kd.C (Kd.int .i64) w A0_3 l0_3.length l0_3) (hc0_3:l0_3.length≤c0_3) (hr0_5:Kd.C (Kd.int .i64) w A0_5 l0_5.length l0_5) (hc0_5:l0_5.length≤c0_5) (hr1_3:Kd.C (Kd.int .i64) w A1_3 l1_3.length l1_3) (hc1_3:l1_3.length≤c1_3) (hr1_5:Kd.C (Kd.int .i64) w A1_5 l1_5.length l1_5) (hc1_5:l1_5.length≤c1_5) (h:Rb.f k a0_0 a0_1 a0_2 l0_3 a0_4 l0_5 a1_0 a1_1 a1_2 l1_3 a1_4 l1_5=some r) :
  Calls Try.prog 28 #[.agg #[.int .i64 a0_0,.int .i64 a0_1,.bool a0_2,.slice A0_3 l0_3.length c0_3,.bool a0_4,.slice A0_5 l0_5.length c0_5],.agg #[.int .i64 a1_0,.int .i64 a1_1,.bool a1_2,.slice A1_3 l1_3.length c1_3,.bool a1_4,.slice A1_5 l1_5.length c1_5]] w fun e w'=>e = .returned (.bool r)∧Below w.heap.size w w':=by
 have hu30:=Try.underlying30;have HR0_3:=zzm hr0_3;have HC0_3:=zzm hc0_3;clear hr0_3 hc0_3;have HR0_5:=zzm hr0_5;have HC0_5:=zzm hc0_5;clear hr0_5 hc0_5;have HR1_3:=zzm hr1_3;have HC1_3:=zzm hc1_3;clear hr1_3 hc1_3;have HR1_5:=zzm hr1_5;have HC1_5:=zzm hc1_5;clear hr1_5 hc1_5;have HB:=zzm (Below.refl w.heap.size w);have H:(if a0_0=a1_0 then (if a0_1=a1_1 then (if (a0_2==a1_2)=true then (if (a0_4==a1_4)=true then ((Qq.f k l0_3 l1_3).bind fun t388=>(if t388=true then ((Qq.f k l0_5 l1_5).bind fun t389=>(some t389)) else (some false))) else (some false)) else (some false)) else (some false)) else (some false))=some r:=h;clear h;by_cases c3:a0_0=a1_0
 ·
  rw [if_pos c3] at H;have c3b0:(a0_0==a1_0)=true:=beq_iff_eq.mpr c3;have c3b1:(a0_0 != a1_0)=false:=bne_eq_false_iff_eq.mpr c3;clear c3;by_cases c4:a0_1=a1_1
  ·
   rw [if_pos c4] at H;have c4b0:(a0_1==a1_1)=true:=beq_iff_eq.mpr c4;have c4b1:(a0_1 != a1_1)=false:=bne_eq_false_iff_eq.mpr c4;clear c4;by_cases c5:(a0_2==a1_2)=true
   ·
    rw [if_pos c5] at H;have c5b0:(a0_2==a1_2)=true:=c5
    (try (have c5b1:decide (a0_2=a1_2)=true:=by simpa using c5))
    (try (have c5b2:(a0_2==a1_2)=true:=by simpa using c5));clear c5;by_cases c6:(a0_4==a1_4)=true
    ·
     rw [if_pos c6] at H;have c6b0:(a0_4==a1_4)=true:=c6
     (try (have c6b1:decide (a0_4=a1_4)=true:=by simpa using c6))
     (try (have c6b2:(a0_4==a1_4)=true:=by simpa using c6));clear c6;replace H:=Option.bind_eq_some_iff.mp H;obtain ⟨t388,A70,H⟩:=H;replace H:(if t388=true then ((Qq.f k l0_5 l1_5).bind fun t389=>(some t389)) else (some false))=some r:=H;have A7:=zzm A70;clear A70;by_cases c8:t388=true
     ·
      subst c8;have H1:((Qq.f k l0_5 l1_5).bind fun t389=>(some t389))=some r:=by rw [if_pos rfl] at H;exact H
      clear H;have H:=H1;clear H1;replace H:=Option.bind_eq_some_iff.mp H;obtain ⟨t389,A90,H⟩:=H;replace H:(some t389)=some r:=H;have A9:=zzm A90;clear A90;obtain rfl:=Option.some.inj H;go_enter Try.func28,Try.ntmps28;go_wp2_with (first|((with_reducible refine gate_dst (N:=2) rfl ?_);refine box_event ?hg (N:=2) ?hd (cs:=#[.int .i64 a0_0,.int .i64 a0_1,.bool a0_2,.slice A0_3 l0_3.length c0_3,.bool a0_4,.slice A0_5 l0_5.length c0_5]) (t:=30) ?hr ?_;(case hd=>rfl);(case hg=>rfl);(case hr=>first|(go_simp;done)|(go_simp;rfl));intro gb386 hg w10 hbox hb;have n0_:=zzm (zzp zzh1 hb);have n1_:=zzm (hbox);have n2_:=zzm ((by rw [hg];exact (zzo zzh1):w.heap.size≤gb386));have n3_:=zzm ((by rw [hg];exact (zzo zzh1):w.heap.size≤gb386));clear HB;have HB:=n0_;have BK386:=n1_;have GW386:=n2_;have GE386:=n3_;clear n0_ n1_ n2_ n3_ hb hbox hg)|((with_reducible refine gate_dst (N:=3) rfl ?_);refine box_event ?hg (N:=3) ?hd (cs:=#[.int .i64 a1_0,.int .i64 a1_1,.bool a1_2,.slice A1_3 l1_3.length c1_3,.bool a1_4,.slice A1_5 l1_5.length c1_5]) (t:=30) ?hr ?_;(case hd=>rfl);(case hg=>rfl);(case hr=>first|(go_simp;done)|(go_simp;rfl));intro gb387 hg w11 hbox hb;have n0_:=zzm (zzh (g:=gb386) (o:=.cells #[.int .i64 a0_0,.int .i64 a0_1,.bool a0_2,.slice A0_3 l0_3.length c0_3,.bool a0_4,.slice A0_5 l0_5.length c0_5] 30 (0,0)) (zzE BK386.out) hb);have n1_:=zzm (zzp zzh2 hb);have n2_:=zzm (hbox);have n3_:=zzm ((by rw [hg];exact (zzo zzh2):w.heap.size≤gb387));have n4_:=zzm ((by rw [hg];exact (zzo zzh2):w.heap.size≤gb387));have n5_:=zzm ((by rw [hg];exact Nat.ne_of_lt (blk_lt (g:=gb386) (o:=.cells #[.int .i64 a0_0,.int .i64 a0_1,.bool a0_2,.slice A0_3 l0_3.length c0_3,.bool a0_4,.slice A0_5 l0_5.length c0_5] 30 (0,0)) (zzE BK386.out)):gb386≠gb387));have n6_:=zzm ((by rw [hg];exact Nat.ne_of_gt (blk_lt (g:=gb386) (o:=.cells #[.int .i64 a0_0,.int .i64 a0_1,.bool a0_2,.slice A0_3 l0_3.length c0_3,.bool a0_4,.slice A0_5 l0_5.length c0_5] 30 (0,0)) (zzE BK386.out)):gb387≠gb386));clear BK386 HB;have BK386:=n0_;have HB:=n1_;have BK387:=n2_;have GW387:=n3_;have GE387:=n4_;have NB386_387:=n5_;have NB387_386:=n6_;clear n0_ n1_ n2_ n3_ n4_ n5_ n6_ hb hbox hg;have hnb12:=NB386_387.out;have hnc12:=NB387_386.out;obtain ⟨hcz13_0,hcz13_1,hcz13_2,hcz13_3,hcz13_4,hcz13_5,hfz13_0,hfz13_1,hfz13_2,hfz13_3,hfz13_4,hfz13_5⟩:=zzc6 BK386.out;obtain ⟨hcz14_0,hcz14_1,hcz14_2,hcz14_3,hcz14_4,hcz14_5,hfz14_0,hfz14_1,hfz14_2,hfz14_3,hfz14_4,hfz14_5⟩:=zzc6 BK387.out)|(go_at_call 19;(with_reducible refine (Qq.calls k _ _ l0_3 _ _ l1_3 true _ ?side1 ?side2 ?side3 ?side4 A7.out).mono ?_);(case side1=>repeat (first|exact (Kd.C_below HR0_3.out HB.out)|(with_reducible refine Kd.C_alloc ?_ _)|(with_reducible refine Kd.C_drewN ?_ _)|(with_reducible refine Kd.C_drew ?_)));(case side2=>exact HC0_3.out);(case side3=>repeat (first|exact (Kd.C_below HR1_3.out HB.out)|(with_reducible refine Kd.C_alloc ?_ _)|(with_reducible refine Kd.C_drewN ?_ _)|(with_reducible refine Kd.C_drew ?_)));(case side4=>exact HC1_3.out);rintro e w' ⟨rfl,⟨nd,rfl⟩⟩)|(go_at_call 19;(with_reducible refine (Qq.calls k _ _ l0_5 _ _ l1_5 t389 _ ?side1 ?side2 ?side3 ?side4 A9.out).mono ?_);(case side1=>repeat (first|exact (Kd.C_below HR0_5.out zzh2)|(with_reducible refine Kd.C_alloc ?_ _)|(with_reducible refine Kd.C_drewN ?_ _)|(with_reducible refine Kd.C_drew ?_)));(case side2=>exact HC0_5.out);(case side3=>repeat (first|exact (Kd.C_below HR1_5.out zzh2)|(with_reducible refine Kd.C_alloc ?_ _)|(with_reducible refine Kd.C_drewN ?_ _)|(with_reducible refine Kd.C_drew ?_)));(case side4=>exact HC1_5.out);rintro e w' ⟨rfl,⟨nd,rfl⟩⟩));go_ret;exact ⟨by first|rfl|(simp [errW_none,errW_some] <;> rfl)|(simp [*,errW_none,errW_some] <;> rfl),by repeat (first|(with_reducible first|exact HB.out|apply zza|apply zzb|apply zzc|refine zzd ?_ GE386.out|refine zzd ?_ GE387.out)|exact HB.out)⟩
     ·
      replace c8:=Bool.eq_false_iff.mpr c8;subst c8;have H1:(some false)=some r:=by rw [if_neg (show ¬ (false=true) by decide)] at H;exact H
      clear H;have H:=H1;clear H1;obtain rfl:=Option.some.inj H;go_enter Try.func28,Try.ntmps28;go_wp2_with (first|((with_reducible refine gate_dst (N:=2) rfl ?_);refine box_event ?hg (N:=2) ?hd (cs:=#[.int .i64 a0_0,.int .i64 a0_1,.bool a0_2,.slice A0_3 l0_3.length c0_3,.bool a0_4,.slice A0_5 l0_5.length c0_5]) (t:=30) ?hr ?_;(case hd=>rfl);(case hg=>rfl);(case hr=>first|(go_simp;done)|(go_simp;rfl));intro gb386 hg w15 hbox hb;have n0_:=zzm (zzp zzh1 hb);have n1_:=zzm (hbox);have n2_:=zzm ((by rw [hg];exact (zzo zzh1):w.heap.size≤gb386));have n3_:=zzm ((by rw [hg];exact (zzo zzh1):w.heap.size≤gb386));clear HB;have HB:=n0_;have BK386:=n1_;have GW386:=n2_;have GE386:=n3_;clear n0_ n1_ n2_ n3_ hb hbox hg)|((with_reducible refine gate_dst (N:=3) rfl ?_);refine box_event ?hg (N:=3) ?hd (cs:=#[.int .i64 a1_0,.int .i64 a1_1,.bool a1_2,.slice A1_3 l1_3.length c1_3,.bool a1_4,.slice A1_5 l1_5.length c1_5]) (t:=30) ?hr ?_;(case hd=>rfl);(case hg=>rfl);(case hr=>first|(go_simp;done)|(go_simp;rfl));intro gb387 hg w16 hbox hb;have n0_:=zzm (zzh (g:=gb386) (o:=.cells #[.int .i64 a0_0,.int .i64 a0_1,.bool a0_2,.slice A0_3 l0_3.length c0_3,.bool a0_4,.slice A0_5 l0_5.length c0_5] 30 (0,0)) (zzE BK386.out) hb);have n1_:=zzm (zzp zzh2 hb);have n2_:=zzm (hbox);have n3_:=zzm ((by rw [hg];exact (zzo zzh2):w.heap.size≤gb387));have n4_:=zzm ((by rw [hg];exact (zzo zzh2):w.heap.size≤gb387));have n5_:=zzm ((by rw [hg];exact Nat.ne_of_lt (blk_lt (g:=gb386) (o:=.cells #[.int .i64 a0_0,.int .i64 a0_1,.bool a0_2,.slice A0_3 l0_3.length c0_3,.bool a0_4,.slice A0_5 l0_5.length c0_5] 30 (0,0)) (zzE BK386.out)):gb386≠gb387));have n6_:=zzm ((by rw [hg];exact Nat.ne_of_gt (blk_lt (g:=gb386) (o:=.cells #[.int .i64 a0_0,.int .i64 a0_1,.bool a0_2,.slice A0_3 l0_3.length c0_3,.bool a0_4,.slice A0_5 l0_5.length c0_5] 30 (0,0)) (zzE BK386.out)):gb387≠gb386));clear BK386 HB;have BK386:=n0_;have HB:=n1_;have BK387:=n2_;have GW387:=n3_;have GE387:=n4_;have NB386_387:=n5_;have NB387_386:=n6_;clear n0_ n1_ n2_ n3_ n4_ n5_ n6_ hb hbox hg;have hnb17:=NB386_387.out;have hnc17:=NB387_386.out;obtain ⟨hcz18_0,hcz18_1,hcz18_2,hcz18_3,hcz18_4,hcz18_5,hfz18_0,hfz18_1,hfz18_2,hfz18_3,hfz18_4,hfz18_5⟩:=zzc6 BK386.out;obtain ⟨hcz19_0,hcz19_1,hcz19_2,hcz19_3,hcz19_4,hcz19_5,hfz19_0,hfz19_1,hfz19_2,hfz19_3,hfz19_4,hfz19_5⟩:=zzc6 BK387.out)|(go_at_call 19;(with_reducible refine (Qq.calls k _ _ l0_3 _ _ l1_3 false _ ?side1 ?side2 ?side3 ?side4 A7.out).mono ?_);(case side1=>repeat (first|exact (Kd.C_below HR0_3.out HB.out)|(with_reducible refine Kd.C_alloc ?_ _)|(with_reducible refine Kd.C_drewN ?_ _)|(with_reducible refine Kd.C_drew ?_)));(case side2=>exact HC0_3.out);(case side3=>repeat (first|exact (Kd.C_below HR1_3.out HB.out)|(with_reducible refine Kd.C_alloc ?_ _)|(with_reducible refine Kd.C_drewN ?_ _)|(with_reducible refine Kd.C_drew ?_)));(case side4=>exact HC1_3.out);rintro e w' ⟨rfl,⟨nd,rfl⟩⟩));go_ret;exact ⟨by first|rfl|(simp [errW_none,errW_some] <;> rfl)|(simp [*,errW_none,errW_some] <;> rfl),by repeat (first|(with_reducible first|exact HB.out|apply zza|apply zzb|apply zzc|refine zzd ?_ GE386.out|refine zzd ?_ GE387.out)|exact HB.out)⟩
    ·
     rw [if_neg c6] at H;have c6b0:(a0_4==a1_4)=false:=by simpa using c6
     (try (have c6b1:decide (a0_4=a1_4)=false:=by simpa using c6))
     (try (have c6b2:(a0_4==a1_4)=false:=by simpa using c6))
     (try (have c6b3:¬ (a0_4=a1_4):=by simpa using c6));clear c6;obtain rfl:=Option.some.inj H;go_enter Try.func28,Try.ntmps28;go_wp2_with (first|((with_reducible refine gate_dst (N:=2) rfl ?_);refine box_event ?hg (N:=2) ?hd (cs:=#[.int .i64 a0_0,.int .i64 a0_1,.bool a0_2,.slice A0_3 l0_3.length c0_3,.bool a0_4,.slice A0_5 l0_5.length c0_5]) (t:=30) ?hr ?_;(case hd=>rfl);(case hg=>rfl);(case hr=>first|(go_simp;done)|(go_simp;rfl));intro gb386 hg w20 hbox hb;have n0_:=zzm (zzp zzh1 hb);have n1_:=zzm (hbox);have n2_:=zzm ((by rw [hg];exact (zzo zzh1):w.heap.size≤gb386));have n3_:=zzm ((by rw [hg];exact (zzo zzh1):w.heap.size≤gb386));clear HB;have HB:=n0_;have BK386:=n1_;have GW386:=n2_;have GE386:=n3_;clear n0_ n1_ n2_ n3_ hb hbox hg)|((with_reducible refine gate_dst (N:=3) rfl ?_);refine box_event ?hg (N:=3) ?hd (cs:=#[.int .i64 a1_0,.int .i64 a1_1,.bool a1_2,.slice A1_3 l1_3.length c1_3,.bool a1_4,.slice A1_5 l1_5.length c1_5]) (t:=30) ?hr ?_;(case hd=>rfl);(case hg=>rfl);(case hr=>first|(go_simp;done)|(go_simp;rfl));intro gb387 hg w21 hbox hb;have n0_:=zzm (zzh (g:=gb386) (o:=.cells #[.int .i64 a0_0,.int .i64 a0_1,.bool a0_2,.slice A0_3 l0_3.length c0_3,.bool a0_4,.slice A0_5 l0_5.length c0_5] 30 (0,0)) (zzE BK386.out) hb);have n1_:=zzm (zzp zzh2 hb);have n2_:=zzm (hbox);have n3_:=zzm ((by rw [hg];exact (zzo zzh2):w.heap.size≤gb387));have n4_:=zzm ((by rw [hg];exact (zzo zzh2):w.heap.size≤gb387));have n5_:=zzm ((by rw [hg];exact Nat.ne_of_lt (blk_lt (g:=gb386) (o:=.cells #[.int .i64 a0_0,.int .i64 a0_1,.bool a0_2,.slice A0_3 l0_3.length c0_3,.bool a0_4,.slice A0_5 l0_5.length c0_5] 30 (0,0)) (zzE BK386.out)):gb386≠gb387));have n6_:=zzm ((by rw [hg];exact Nat.ne_of_gt (blk_lt (g:=gb386) (o:=.cells #[.int .i64 a0_0,.int .i64 a0_1,.bool a0_2,.slice A0_3 l0_3.length c0_3,.bool a0_4,.slice A0_5 l0_5.length c0_5] 30 (0,0)) (zzE BK386.out)):gb387≠gb386));clear BK386 HB;have BK386:=n0_;have HB:=n1_;have BK387:=n2_;have GW387:=n3_;have GE387:=n4_;have NB386_387:=n5_;have NB387_386:=n6_;clear n0_ n1_ n2_ n3_ n4_ n5_ n6_ hb hbox hg;have hnb22:=NB386_387.out;have hnc22:=NB387_386.out;obtain ⟨hcz23_0,hcz23_1,hcz23_2,hcz23_3,hcz23_4,hcz23_5,hfz23_0,hfz23_1,hfz23_2,hfz23_3,hfz23_4,hfz23_5⟩:=zzc6 BK386.out;obtain ⟨hcz24_0,hcz24_1,hcz24_2,hcz24_3,hcz24_4,hcz24_5,hfz24_0,hfz24_1,hfz24_2,hfz24_3,hfz24_4,hfz24_5⟩:=zzc6 BK387.out));go_ret;exact ⟨by first|rfl|(simp [errW_none,errW_some] <;> rfl)|(simp [*,errW_none,errW_some] <;> rfl),by repeat (first|(with_reducible first|exact HB.out|apply zza|apply zzb|apply zzc|refine zzd ?_ GE386.out|refine zzd ?_ GE387.out)|exact HB.out)⟩
   ·
    rw [if_neg c5] at H;have c5b0:(a0_2==a1_2)=false:=by simpa using c5
    (try (have c5b1:decide (a0_2=a1_2)=false:=by simpa using c5))
    (try (have c5b2:(a0_2==a1_2)=false:=by simpa using c5))
    (try (have c5b3:¬ (a0_2=a1_2):=by simpa using c5));clear c5;obtain rfl:=Option.some.inj H;go_enter Try.func28,Try.ntmps28;go_wp2_with (first|((with_reducible refine gate_dst (N:=2) rfl ?_);refine box_event ?hg (N:=2) ?hd (cs:=#[.int .i64 a0_0,.int .i64 a0_1,.bool a0_2,.slice A0_3 l0_3.length c0_3,.bool a0_4,.slice A0_5 l0_5.length c0_5]) (t:=30) ?hr ?_;(case hd=>rfl);(case hg=>rfl);(case hr=>first|(go_simp;done)|(go_simp;rfl));intro gb386 hg w25 hbox hb;have n0_:=zzm (zzp zzh1 hb);have n1_:=zzm (hbox);have n2_:=zzm ((by rw [hg];exact (zzo zzh1):w.heap.size≤gb386));have n3_:=zzm ((by rw [hg];exact (zzo zzh1):w.heap.size≤gb386));clear HB;have HB:=n0_;have BK386:=n1_;have GW386:=n2_;have GE386:=n3_;clear n0_ n1_ n2_ n3_ hb hbox hg)|((with_reducible refine gate_dst (N:=3) rfl ?_);refine box_event ?hg (N:=3) ?hd (cs:=#[.int .i64 a1_0,.int .i64 a1_1,.bool a1_2,.slice A1_3 l1_3.length c1_3,.bool a1_4,.slice A1_5 l1_5.length c1_5]) (t:=30) ?hr ?_;(case hd=>rfl);(case hg=>rfl);(case hr=>first|(go_simp;done)|(go_simp;rfl));intro gb387 hg w26 hbox hb;have n0_:=zzm (zzh (g:=gb386) (o:=.cells #[.int .i64 a0_0,.int .i64 a0_1,.bool a0_2,.slice A0_3 l0_3.length c0_3,.bool a0_4,.slice A0_5 l0_5.length c0_5] 30 (0,0)) (zzE BK386.out) hb);have n1_:=zzm (zzp zzh2 hb);have n2_:=zzm (hbox);have n3_:=zzm ((by rw [hg];exact (zzo zzh2):w.heap.size≤gb387));have n4_:=zzm ((by rw [hg];exact (zzo zzh2):w.heap.size≤gb387));have n5_:=zzm ((by rw [hg];exact Nat.ne_of_lt (blk_lt (g:=gb386) (o:=.cells #[.int .i64 a0_0,.int .i64 a0_1,.bool a0_2,.slice A0_3 l0_3.length c0_3,.bool a0_4,.slice A0_5 l0_5.length c0_5] 30 (0,0)) (zzE BK386.out)):gb386≠gb387));have n6_:=zzm ((by rw [hg];exact Nat.ne_of_gt (blk_lt (g:=gb386) (o:=.cells #[.int .i64 a0_0,.int .i64 a0_1,.bool a0_2,.slice A0_3 l0_3.length c0_3,.bool a0_4,.slice A0_5 l0_5.length c0_5] 30 (0,0)) (zzE BK386.out)):gb387≠gb386));clear BK386 HB;have BK386:=n0_;have HB:=n1_;have BK387:=n2_;have GW387:=n3_;have GE387:=n4_;have NB386_387:=n5_;have NB387_386:=n6_;clear n0_ n1_ n2_ n3_ n4_ n5_ n6_ hb hbox hg;have hnb27:=NB386_387.out;have hnc27:=NB387_386.out;obtain ⟨hcz28_0,hcz28_1,hcz28_2,hcz28_3,hcz28_4,hcz28_5,hfz28_0,hfz28_1,hfz28_2,hfz28_3,hfz28_4,hfz28_5⟩:=zzc6 BK386.out;obtain ⟨hcz29_0,hcz29_1,hcz29_2,hcz29_3,hcz29_4,hcz29_5,hfz29_0,hfz29_1,hfz29_2,hfz29_3,hfz29_4,hfz29_5⟩:=zzc6 BK387.out));go_ret;exact ⟨by first|rfl|(simp [errW_none,errW_some] <;> rfl)|(simp [*,errW_none,errW_some] <;> rfl),by repeat (first|(with_reducible first|exact HB.out|apply zza|apply zzb|apply zzc|refine zzd ?_ GE386.out|refine zzd ?_ GE387.out)|exact HB.out)⟩
  ·
   rw [if_neg c4] at H;have c4b0:(a0_1==a1_1)=false:=beq_eq_false_iff_ne.mpr c4;have c4b1:(a0_1 != a1_1)=true:=bne_iff_ne.mpr c4;obtain rfl:=Option.some.inj H;go_enter Try.func28,Try.ntmps28;go_wp2_with (first|((with_reducible refine gate_dst (N:=2) rfl ?_);refine box_event ?hg (N:=2) ?hd (cs:=#[.int .i64 a0_0,.int .i64 a0_1,.bool a0_2,.slice A0_3 l0_3.length c0_3,.bool a0_4,.slice A0_5 l0_5.length c0_5]) (t:=30) ?hr ?_;(case hd=>rfl);(case hg=>rfl);(case hr=>first|(go_simp;done)|(go_simp;rfl));intro gb386 hg w30 hbox hb;have n0_:=zzm (zzp zzh1 hb);have n1_:=zzm (hbox);have n2_:=zzm ((by rw [hg];exact (zzo zzh1):w.heap.size≤gb386));have n3_:=zzm ((by rw [hg];exact (zzo zzh1):w.heap.size≤gb386));clear HB;have HB:=n0_;have BK386:=n1_;have GW386:=n2_;have GE386:=n3_;clear n0_ n1_ n2_ n3_ hb hbox hg)|((with_reducible refine gate_dst (N:=3) rfl ?_);refine box_event ?hg (N:=3) ?hd (cs:=#[.int .i64 a1_0,.int .i64 a1_1,.bool a1_2,.slice A1_3 l1_3.length c1_3,.bool a1_4,.slice A1_5 l1_5.length c1_5]) (t:=30) ?hr ?_;(case hd=>rfl);(case hg=>rfl);(case hr=>first|(go_simp;done)|(go_simp;rfl));intro gb387 hg w31 hbox hb;have n0_:=zzm (zzh (g:=gb386) (o:=.cells #[.int .i64 a0_0,.int .i64 a0_1,.bool a0_2,.slice A0_3 l0_3.length c0_3,.bool a0_4,.slice A0_5 l0_5.length c0_5] 30 (0,0)) (zzE BK386.out) hb);have n1_:=zzm (zzp zzh2 hb);have n2_:=zzm (hbox);have n3_:=zzm ((by rw [hg];exact (zzo zzh2):w.heap.size≤gb387));have n4_:=zzm ((by rw [hg];exact (zzo zzh2):w.heap.size≤gb387));have n5_:=zzm ((by rw [hg];exact Nat.ne_of_lt (blk_lt (g:=gb386) (o:=.cells #[.int .i64 a0_0,.int .i64 a0_1,.bool a0_2,.slice A0_3 l0_3.length c0_3,.bool a0_4,.slice A0_5 l0_5.length c0_5] 30 (0,0)) (zzE BK386.out)):gb386≠gb387));have n6_:=zzm ((by rw [hg];exact Nat.ne_of_gt (blk_lt (g:=gb386) (o:=.cells #[.int .i64 a0_0,.int .i64 a0_1,.bool a0_2,.slice A0_3 l0_3.length c0_3,.bool a0_4,.slice A0_5 l0_5.length c0_5] 30 (0,0)) (zzE BK386.out)):gb387≠gb386));clear BK386 HB;have BK386:=n0_;have HB:=n1_;have BK387:=n2_;have GW387:=n3_;have GE387:=n4_;have NB386_387:=n5_;have NB387_386:=n6_;clear n0_ n1_ n2_ n3_ n4_ n5_ n6_ hb hbox hg;have hnb32:=NB386_387.out;have hnc32:=NB387_386.out;obtain ⟨hcz33_0,hcz33_1,hcz33_2,hcz33_3,hcz33_4,hcz33_5,hfz33_0,hfz33_1,hfz33_2,hfz33_3,hfz33_4,hfz33_5⟩:=zzc6 BK386.out;obtain ⟨hcz34_0,hcz34_1,hcz34_2,hcz34_3,hcz34_4,hcz34_5,hfz34_0,hfz34_1,hfz34_2,hfz34_3,hfz34_4,hfz34_5⟩:=zzc6 BK387.out));go_ret;exact ⟨by first|rfl|(simp [errW_none,errW_some] <;> rfl)|(simp [*,errW_none,errW_some] <;> rfl),by repeat (first|(with_reducible first|exact HB.out|apply zza|apply zzb|apply zzc|refine zzd ?_ GE386.out|refine zzd ?_ GE387.out)|exact HB.out)⟩
 ·
  rw [if_neg c3] at H;have c3b0:(a0_0==a1_0)=false:=beq_eq_false_iff_ne.mpr c3;have c3b1:(a0_0 != a1_0)=true:=bne_iff_ne.mpr c3;obtain rfl:=Option.some.inj H;go_enter Try.func28,Try.ntmps28;go_wp2_with (first|((with_reducible refine gate_dst (N:=2) rfl ?_);refine box_event ?hg (N:=2) ?hd (cs:=#[.int .i64 a0_0,.int .i64 a0_1,.bool a0_2,.slice A0_3 l0_3.length c0_3,.bool a0_4,.slice A0_5 l0_5.length c0_5]) (t:=30) ?hr ?_;(case hd=>rfl);(case hg=>rfl);(case hr=>first|(go_simp;done)|(go_simp;rfl));intro gb386 hg w35 hbox hb;have n0_:=zzm (zzp zzh1 hb);have n1_:=zzm (hbox);have n2_:=zzm ((by rw [hg];exact (zzo zzh1):w.heap.size≤gb386));have n3_:=zzm ((by rw [hg];exact (zzo zzh1):w.heap.size≤gb386));clear HB;have HB:=n0_;have BK386:=n1_;have GW386:=n2_;have GE386:=n3_;clear n0_ n1_ n2_ n3_ hb hbox hg)|((with_reducible refine gate_dst (N:=3) rfl ?_);refine box_event ?hg (N:=3) ?hd (cs:=#[.int .i64 a1_0,.int .i64 a1_1,.bool a1_2,.slice A1_3 l1_3.length c1_3,.bool a1_4,.slice A1_5 l1_5.length c1_5]) (t:=30) ?hr ?_;(case hd=>rfl);(case hg=>rfl);(case hr=>first|(go_simp;done)|(go_simp;rfl));intro gb387 hg w36 hbox hb;have n0_:=zzm (zzh (g:=gb386) (o:=.cells #[.int .i64 a0_0,.int .i64 a0_1,.bool a0_2,.slice A0_3 l0_3.length c0_3,.bool a0_4,.slice A0_5 l0_5.length c0_5] 30 (0,0)) (zzE BK386.out) hb);have n1_:=zzm (zzp zzh2 hb);have n2_:=zzm (hbox);have n3_:=zzm ((by rw [hg];exact (zzo zzh2):w.heap.size≤gb387));have n4_:=zzm ((by rw [hg];exact (zzo zzh2):w.heap.size≤gb387));have n5_:=zzm ((by rw [hg];exact Nat.ne_of_lt (blk_lt (g:=gb386) (o:=.cells #[.int .i64 a0_0,.int .i64 a0_1,.bool a0_2,.slice A0_3 l0_3.length c0_3,.bool a0_4,.slice A0_5 l0_5.length c0_5] 30 (0,0)) (zzE BK386.out)):gb386≠gb387));have n6_:=zzm ((by rw [hg];exact Nat.ne_of_gt (blk_lt (g:=gb386) (o:=.cells #[.int .i64 a0_0,.int .i64 a0_1,.bool a0_2,.slice A0_3 l0_3.length c0_3,.bool a0_4,.slice A0_5 l0_5.length c0_5] 30 (0,0)) (zzE BK386.out)):gb387≠gb386));clear BK386 HB;have BK386:=n0_;have HB:=n1_;have BK387:=n2_;have GW387:=n3_;have GE387:=n4_;have NB386_387:=n5_;have NB387_386:=n6_;clear n0_ n1_ n2_ n3_ n4_ n5_ n6_ hb hbox hg;have hnb37:=NB386_387.out;have hnc37:=NB387_386.out;obtain ⟨hcz38_0,hcz38_1,hcz38_2,hcz38_3,hcz38_4,hcz38_5,hfz38_0,hfz38_1,hfz38_2,hfz38_3,hfz38_4,hfz38_5⟩:=zzc6 BK386.out;obtain ⟨hcz39_0,hcz39_1,hcz39_2,hcz39_3,hcz39_4,hcz39_5,hfz39_0,hfz39_1,hfz39_2,hfz39_3,hfz39_4,hfz39_5⟩:=zzc6 BK387.out));go_ret;exact ⟨by first|rfl|(simp [errW_none,errW_some] <;> rfl)|(simp [*,errW_none,errW_some] <;> rfl),by repeat (first|(with_reducible first|exact HB.out|apply zza|apply zzb|apply zzc|refine zzd ?_ GE386.out|refine zzd ?_ GE387.out)|exact HB.out)⟩
def Qj.l0:Nat→List (S30)→List (S30)→Int→Option (Bool)
 | 0,_,_,_=>none
 | k+1,x0,x1,x5=>if x5 < (x0.length:Int) then (if 0≤x5 then (if x5 < (x1.length:Int) then ((Rb.f k ((Qb x0 x5).f0) ((Qb x0 x5).f1) ((Qb x0 x5).f2) ((Qb x0 x5).f3) ((Qb x0 x5).f4) ((Qb x0 x5).f5) ((Qb x1 x5).f0) ((Qb x1 x5).f1) ((Qb x1 x5).f2) ((Qb x1 x5).f3) ((Qb x1 x5).f4) ((Qb x1 x5).f5)).bind fun t392=>(if t392=true then (Qj.l0 k x0 x1 (wrap64 (x5+1))) else (some false))) else (none)) else (none)) else (some true)
def Qj.f (k:Nat) (l0:List (S30)) (l1:List (S30)):Option (Bool):=if (l0.length:Int)=(l1.length:Int) then (Qj.l0 k l0 l1 0) else (some false)
def Qj.T6:Bool×List (List Nat×List Nat):=(true,[([],[]),([],[]),([0,1],[0,1]),([2],[2]),([],[]),([],[]),([4,5],[4,5]),([6],[6]),([3,7],[3,7]),([8],[8])])
def Qj.B6:List Nat:=[0,0,3,7,0,0,48,112,255,511]
theorem Qj.tab6:rtab .any (opsOf Try.f18 6)=Qj.T6:=by kernel_rfl
theorem Qj.bits6:waitsOk Qj.T6.2 Qj.B6=true:=by kernel_rfl
set_option maxHeartbeats 8000000 in
set_option maxRecDepth 100000 in
theorem Qj.calls (k:Nat) (A0:Option Addr) (c0:Nat) (l0:List (S30)) (A1:Option Addr) (c1:Nat) (l1:List (S30)) (r:Bool) (w:World) (hr0:Kd.C k30 w A0 l0.length l0) (hc0:l0.length≤c0) (hr1:Kd.C k30 w A1 l1.length l1) (hc1:l1.length≤c1) (h:Qj.f k l0 l1=some r) :
  Calls Try.prog 18 #[.slice A0 l0.length c0,.slice A1 l1.length c1] w fun e w'=>e = .returned (.bool r)∧Below w.heap.size w w':=by
 have hu30:=Try.underlying30;have HR0:=zzm hr0;have HC0:=zzm hc0;clear hr0 hc0;have HR1:=zzm hr1;have HC1:=zzm hc1;clear hr1 hc1;have HB:=zzm (Below.refl w.heap.size w);have H:(if (l0.length:Int)=(l1.length:Int) then (Qj.l0 k l0 l1 0) else (some false))=some r:=h;clear h;by_cases c3:(l0.length:Int)=(l1.length:Int)
 ·
  rw [if_pos c3] at H;have c3b0:((l0.length:Int)==(l1.length:Int))=true:=beq_iff_eq.mpr c3;have c3b1:((l0.length:Int) != (l1.length:Int))=false:=bne_eq_false_iff_eq.mpr c3;have c3b2:(l0.length==l1.length)=true:=by first|simpa using c3|(simp at c3 ⊢;omega)
  clear c3;have H':=zzm H;clear H;go_enter Try.func18,Try.ntmps18;go_wp2;go_loopg [5] k (fun kq v5 w'=>∃ (x5_1:Int),v5 = .int .i64 x5_1∧Aside0 (Qj.l0 kq l0 l1 x5_1=some r)∧Aside0 (kq≤k)∧Aside0 (Below w.heap.size w w'))
  case atStart=>exact ⟨(0),(by first|rfl|(simp;done)|(simp [*];done)),H',⟨Nat.le_refl _⟩,⟨zzh1⟩⟩
  case round=>
   clear H';try clear c1
   try clear p2
   try clear c3
   try clear c3b0
   try clear c3b1
   try clear c3b2
   obtain ⟨x5_1,rfl,HA,HK1,HB⟩:=hrel;cases gk with
   | zero=>exact absurd HA.out (by simp [Qj.l0])
   | succ k1=>
    have H:=HA.out;clear HA;simp only [Qj.l0] at H;by_cases c4:x5_1 < (l0.length:Int)
    ·
     rw [if_pos c4] at H;have c4b0:decide (x5_1 < (l0.length:Int))=true:=decide_eq_true c4;clear c4;by_cases c5 : 0≤x5_1
     ·
      rw [if_pos c5] at H;have c5b0:decide (0≤x5_1)=true:=decide_eq_true c5;clear c5;by_cases c6:x5_1 < (l1.length:Int)
      ·
       rw [if_pos c6] at H;have c6b0:decide (x5_1 < (l1.length:Int))=true:=decide_eq_true c6;clear c6;replace H:=Option.bind_eq_some_iff.mp H;obtain ⟨t392,A70,H⟩:=H;replace H:(if t392=true then (Qj.l0 k1 l0 l1 (wrap64 (x5_1+1))) else (some false))=some r:=H;have A7:=zzm A70;clear A70;by_cases c8:t392=true
       ·
        subst c8;have H1:(Qj.l0 k1 l0 l1 (wrap64 (x5_1+1)))=some r:=by rw [if_pos rfl] at H;exact H
        clear H;have H:=H1;clear H1;have H':=zzm H;clear H;try go_wp2
        have n0_:=zzm (zzc HB.out);clear HB;have HB:=n0_;clear n0_;have p390 : 0≤(x5_1:Int):=zzt;have q390:x5_1 < (l0.length:Int):=zzt;obtain ⟨ad390,A390_3,c390_3,A390_5,c390_5,e390,hx390_0,hx390_1,hx390_2,hx390_3,hx390_4,hx390_5,hl390_3,hi390_3,hl390_5,hi390_5⟩:=Qy HR0.out x5_1 p390 q390;have hw390_5:=hx390_5;have hw390_4:=hx390_4;have hw390_3:=hx390_3;have hw390_2:=hx390_2;have hw390_1:=hx390_1;have hw390_0:=hx390_0;cases e390;replace hx390_0:=zzx HB.out hx390_0;replace hx390_1:=zzx HB.out hx390_1;replace hx390_2:=zzx HB.out hx390_2;replace hx390_3:=zzx HB.out hx390_3;replace hx390_4:=zzx HB.out hx390_4;replace hx390_5:=zzx HB.out hx390_5;have HR390_3:=zzm hi390_3;have HC390_3:=zzm hl390_3;clear hi390_3 hl390_3;have HR390_5:=zzm hi390_5;have HC390_5:=zzm hl390_5;clear hi390_5 hl390_5;replace p390:=eq_true p390;replace q390:=eq_true q390;have p391 : 0≤(x5_1:Int):=zzt;have q391:x5_1 < (l1.length:Int):=zzt;obtain ⟨ad391,A391_3,c391_3,A391_5,c391_5,e391,hx391_0,hx391_1,hx391_2,hx391_3,hx391_4,hx391_5,hl391_3,hi391_3,hl391_5,hi391_5⟩:=Qy HR1.out x5_1 p391 q391;have hw391_5:=hx391_5;have hw391_4:=hx391_4;have hw391_3:=hx391_3;have hw391_2:=hx391_2;have hw391_1:=hx391_1;have hw391_0:=hx391_0;cases e391;replace hx391_0:=zzx HB.out hx391_0;replace hx391_1:=zzx HB.out hx391_1;replace hx391_2:=zzx HB.out hx391_2;replace hx391_3:=zzx HB.out hx391_3;replace hx391_4:=zzx HB.out hx391_4;replace hx391_5:=zzx HB.out hx391_5;have HR391_3:=zzm hi391_3;have HC391_3:=zzm hl391_3;clear hi391_3 hl391_3;have HR391_5:=zzm hi391_5;have HC391_5:=zzm hl391_5;clear hi391_5 hl391_5;replace p391:=eq_true p391;replace q391:=eq_true q391;refine start_ (n:=10) (S:=fun w'=>w'.cell? (ad390.add ((x5_1).toNat * 6))=some (.int .i64 ((Qb l0 x5_1).f0))∧w'.cell? ⟨(ad390.add ((x5_1).toNat * 6)).block,(ad390.add ((x5_1).toNat * 6)).off+1,none⟩=some (.int .i64 ((Qb l0 x5_1).f1))∧w'.cell? ⟨(ad390.add ((x5_1).toNat * 6)).block,(ad390.add ((x5_1).toNat * 6)).off+2,none⟩=some (.bool ((Qb l0 x5_1).f2))∧w'.cell? ⟨(ad390.add ((x5_1).toNat * 6)).block,(ad390.add ((x5_1).toNat * 6)).off+3,none⟩=some (.slice A390_3 ((Qb l0 x5_1).f3).length c390_3)∧w'.cell? ⟨(ad390.add ((x5_1).toNat * 6)).block,(ad390.add ((x5_1).toNat * 6)).off+4,none⟩=some (.bool ((Qb l0 x5_1).f4))∧w'.cell? ⟨(ad390.add ((x5_1).toNat * 6)).block,(ad390.add ((x5_1).toNat * 6)).off+5,none⟩=some (.slice A390_5 ((Qb l0 x5_1).f5).length c390_5)∧w'.cell? (ad391.add ((x5_1).toNat * 6))=some (.int .i64 ((Qb l1 x5_1).f0))∧w'.cell? ⟨(ad391.add ((x5_1).toNat * 6)).block,(ad391.add ((x5_1).toNat * 6)).off+1,none⟩=some (.int .i64 ((Qb l1 x5_1).f1))∧w'.cell? ⟨(ad391.add ((x5_1).toNat * 6)).block,(ad391.add ((x5_1).toNat * 6)).off+2,none⟩=some (.bool ((Qb l1 x5_1).f2))∧w'.cell? ⟨(ad391.add ((x5_1).toNat * 6)).block,(ad391.add ((x5_1).toNat * 6)).off+3,none⟩=some (.slice A391_3 ((Qb l1 x5_1).f3).length c391_3)∧w'.cell? ⟨(ad391.add ((x5_1).toNat * 6)).block,(ad391.add ((x5_1).toNat * 6)).off+4,none⟩=some (.bool ((Qb l1 x5_1).f4))∧w'.cell? ⟨(ad391.add ((x5_1).toNat * 6)).block,(ad391.add ((x5_1).toNat * 6)).off+5,none⟩=some (.slice A391_5 ((Qb l1 x5_1).f5).length c391_5)) (ds:=[]) (zzB 10 0) (by kernel_rfl) rfl rfl ⟨(zzx HB.out hw390_0),(zzx HB.out hw390_1),(zzx HB.out hw390_2),(zzx HB.out hw390_3),(zzx HB.out hw390_4),(zzx HB.out hw390_5),(zzx HB.out hw391_0),(zzx HB.out hw391_1),(zzx HB.out hw391_2),(zzx HB.out hw391_3),(zzx HB.out hw391_4),(zzx HB.out hw391_5)⟩ (fun hHeld=>?_);refine with_tabW Qj.tab6 Qj.bits6 (fun HT_ HW_=>?_);generalize wr.drew=w9 at HB HR390_3 HR390_5 HR391_3 HR391_5 hx390_0 hx390_1 hx390_2 hx390_3 hx390_4 hx390_5 hx391_0 hx391_1 hx391_2 hx391_3 hx391_4 hx391_5 hHeld ⊢;refine pure_ (i:=0) (N:=some 17) (v:=?_) (a':=?_) (zzB 10 1) rfl rfl (zzA2 HT_.out) (fun _ _ _ h=>h) (Or.inl ⟨by rfl,?_⟩) ?_ ?_;rotate_left
        ·
         intro w';go_simp;with_reducible rfl
        rotate_left
        ·
         simp only [Act.put,zzq,zzr,zzs,i64_w,i32_w];rfl
        refine pure_ (i:=1) (N:=some 18) (v:=?_) (a':=?_) (zzB 10 3) rfl rfl (zzA2 HT_.out) (fun _ _ _ h=>h) (Or.inl ⟨by rfl,?_⟩) ?_ ?_;rotate_left
        ·
         intro w';go_simp;with_reducible rfl
        rotate_left
        ·
         simp only [Act.put,zzq,zzr,zzs,i64_w,i32_w];rfl
        refine pure_ (i:=2) (N:=some 19) (v:=?_) (a':=?_) (zzB 10 7) rfl rfl (zzA2 HT_.out) (fun _ _ _ h=>h) (Or.inl ⟨by rfl,?_⟩) ?_ ?_;rotate_left
        ·
         intro w';go_simp;with_reducible rfl
        rotate_left
        ·
         simp only [Act.put,zzq,zzr,zzs,i64_w,i32_w];rfl
        refine pure_ (i:=4) (N:=some 21) (v:=?_) (a':=?_) (zzB 10 23) rfl rfl (zzA2 HT_.out) (fun _ _ _ h=>h) (Or.inl ⟨by rfl,?_⟩) ?_ ?_;rotate_left
        ·
         intro w';go_simp;with_reducible rfl
        rotate_left
        ·
         simp only [Act.put,zzq,zzr,zzs,i64_w,i32_w];rfl
        refine pure_ (i:=5) (N:=some 22) (v:=?_) (a':=?_) (zzB 10 55) rfl rfl (zzA2 HT_.out) (fun _ _ _ h=>h) (Or.inl ⟨by rfl,?_⟩) ?_ ?_;rotate_left
        ·
         intro w';go_simp;with_reducible rfl
        rotate_left
        ·
         simp only [Act.put,zzq,zzr,zzs,i64_w,i32_w];rfl
        refine pure_ (i:=6) (N:=some 23) (v:=?_) (a':=?_) (zzB 10 119) rfl rfl (zzA2 HT_.out) (fun _ _ _ h=>h) (Or.inl ⟨by rfl,?_⟩) ?_ ?_;rotate_left
        ·
         intro w';go_simp;with_reducible rfl
        rotate_left
        ·
         simp only [Act.put,zzq,zzr,zzs,i64_w,i32_w];rfl
        refine take_ (i:=3) (N:=some 20) (v:=?_) (a':=?_) (zzB 10 127) rfl rfl (take_ofW HT_.out HW_.out (by kernel_rfl)) (fun _ _ _ h=>h) (Or.inl ⟨by rfl,?_⟩) hHeld ?_ ?_;rotate_left
        ·
         rintro w' ⟨s0,s1,s2,s3,s4,s5,s6,s7,s8,s9,s10,s11⟩;go_simp;with_reducible rfl
        rotate_left
        ·
         simp only [Act.put,zzq,zzr,zzs,i64_w,i32_w];rfl
        refine take_ (i:=7) (N:=some 24) (v:=?_) (a':=?_) (zzB 10 255) rfl rfl (take_ofW HT_.out HW_.out (by kernel_rfl)) (fun _ _ _ h=>h) (Or.inl ⟨by rfl,?_⟩) hHeld ?_ ?_;rotate_left
        ·
         rintro w' ⟨s0,s1,s2,s3,s4,s5,s6,s7,s8,s9,s10,s11⟩;go_simp;with_reducible rfl
        rotate_left
        ·
         simp only [Act.put,zzq,zzr,zzs,i64_w,i32_w];rfl
        refine one_ (i:=8) (N:=some 25) (zzB 10 511) rfl rfl (one_of HT_.out (by kernel_rfl)) (by decide) (fun K hK=>?_);refine goes_ Try.func28 (by kernel_rfl) rfl #[.agg #[.int .i64 ((Qb l0 x5_1).f0),.int .i64 ((Qb l0 x5_1).f1),.bool ((Qb l0 x5_1).f2),.slice A390_3 ((Qb l0 x5_1).f3).length c390_3,.bool ((Qb l0 x5_1).f4),.slice A390_5 ((Qb l0 x5_1).f5).length c390_5],.agg #[.int .i64 ((Qb l1 x5_1).f0),.int .i64 ((Qb l1 x5_1).f1),.bool ((Qb l1 x5_1).f2),.slice A391_3 ((Qb l1 x5_1).f3).length c391_3,.bool ((Qb l1 x5_1).f4),.slice A391_5 ((Qb l1 x5_1).f5).length c391_5]] (by rfl) rfl rfl zzM2 ?_;with_reducible refine (Rb.calls k1 ((Qb l0 x5_1).f0) ((Qb l0 x5_1).f1) ((Qb l0 x5_1).f2) _ _ ((Qb l0 x5_1).f3) ((Qb l0 x5_1).f4) _ _ ((Qb l0 x5_1).f5) ((Qb l1 x5_1).f0) ((Qb l1 x5_1).f1) ((Qb l1 x5_1).f2) _ _ ((Qb l1 x5_1).f3) ((Qb l1 x5_1).f4) _ _ ((Qb l1 x5_1).f5) true _ ?side1 ?side2 ?side3 ?side4 ?side5 ?side6 ?side7 ?side8 A7.out).mono ?_
        (case side1=>repeat (first|exact (Kd.C_below HR390_3.out HB.out)|(with_reducible refine Kd.C_alloc ?_ _)|(with_reducible refine Kd.C_drewN ?_ _)|(with_reducible refine Kd.C_drew ?_)))
        (case side2=>exact HC390_3.out)
        (case side3=>repeat (first|exact (Kd.C_below HR390_5.out HB.out)|(with_reducible refine Kd.C_alloc ?_ _)|(with_reducible refine Kd.C_drewN ?_ _)|(with_reducible refine Kd.C_drew ?_)))
        (case side4=>exact HC390_5.out)
        (case side5=>repeat (first|exact (Kd.C_below HR391_3.out HB.out)|(with_reducible refine Kd.C_alloc ?_ _)|(with_reducible refine Kd.C_drewN ?_ _)|(with_reducible refine Kd.C_drew ?_)))
        (case side6=>exact HC391_3.out)
        (case side7=>repeat (first|exact (Kd.C_below HR391_5.out HB.out)|(with_reducible refine Kd.C_alloc ?_ _)|(with_reducible refine Kd.C_drewN ?_ _)|(with_reducible refine Kd.C_drew ?_)))
        (case side8=>exact HC391_5.out);rintro e w10 ⟨rfl,hb⟩;refine ⟨_,rfl,?_⟩;have n0_:=zzm (zzp zzh1 hb);clear HB;have HB:=n0_;clear n0_
        (try clear hb)
        (try clear hb2)
        (try clear hk)
        (try clear hi);refine hK.out _ _ ⟨(zzx HB.out hw390_0),(zzx HB.out hw390_1),(zzx HB.out hw390_2),(zzx HB.out hw390_3),(zzx HB.out hw390_4),(zzx HB.out hw390_5),(zzx HB.out hw391_0),(zzx HB.out hw391_1),(zzx HB.out hw391_2),(zzx HB.out hw391_3),(zzx HB.out hw391_4),(zzx HB.out hw391_5)⟩ (fun hHeld=>?_);clear hK K;refine norm_ (a':=?_) ?_ ?_;rotate_left
        ·
         show Act.put _ (some 25) _ = _;simp only [Act.put,zzq,zzr,zzs,i64_w,i32_w];rfl
        refine pure_ (i:=9) (N:=some 26) (v:=?_) (a':=?_) (zzB 10 1023) rfl rfl (zzA2 HT_.out) (fun _ _ _ h=>h) (Or.inl ⟨by rfl,?_⟩) ?_ ?_;rotate_left
        ·
         intro w';go_simp;with_reducible rfl
        rotate_left
        ·
         simp only [Act.put,zzq,zzr,zzs,i64_w,i32_w];rfl
        refine done_ (done_of HT_.out (by kernel_rfl)) ?_;try go_wp2
        go_roundg k1
        case measure=>have:=HK1.out;omega
        case rel=>exact ⟨(wrap64 (x5_1+1)),(by first|rfl|(simp;done)|(simp [*];done)),H',⟨by have:=HK1.out;omega⟩,⟨zzh1⟩⟩
       ·
        replace c8:=Bool.eq_false_iff.mpr c8;subst c8;have H1:(some false)=some r:=by rw [if_neg (show ¬ (false=true) by decide)] at H;exact H
        clear H;have H:=H1;clear H1;obtain rfl:=Option.some.inj H;try go_wp2
        have n0_:=zzm (zzc HB.out);clear HB;have HB:=n0_;clear n0_;have p390 : 0≤(x5_1:Int):=zzt;have q390:x5_1 < (l0.length:Int):=zzt;obtain ⟨ad390,A390_3,c390_3,A390_5,c390_5,e390,hx390_0,hx390_1,hx390_2,hx390_3,hx390_4,hx390_5,hl390_3,hi390_3,hl390_5,hi390_5⟩:=Qy HR0.out x5_1 p390 q390;have hw390_5:=hx390_5;have hw390_4:=hx390_4;have hw390_3:=hx390_3;have hw390_2:=hx390_2;have hw390_1:=hx390_1;have hw390_0:=hx390_0;cases e390;replace hx390_0:=zzx HB.out hx390_0;replace hx390_1:=zzx HB.out hx390_1;replace hx390_2:=zzx HB.out hx390_2;replace hx390_3:=zzx HB.out hx390_3;replace hx390_4:=zzx HB.out hx390_4;replace hx390_5:=zzx HB.out hx390_5;have HR390_3:=zzm hi390_3;have HC390_3:=zzm hl390_3;clear hi390_3 hl390_3;have HR390_5:=zzm hi390_5;have HC390_5:=zzm hl390_5;clear hi390_5 hl390_5;replace p390:=eq_true p390;replace q390:=eq_true q390;have p391 : 0≤(x5_1:Int):=zzt;have q391:x5_1 < (l1.length:Int):=zzt;obtain ⟨ad391,A391_3,c391_3,A391_5,c391_5,e391,hx391_0,hx391_1,hx391_2,hx391_3,hx391_4,hx391_5,hl391_3,hi391_3,hl391_5,hi391_5⟩:=Qy HR1.out x5_1 p391 q391;have hw391_5:=hx391_5;have hw391_4:=hx391_4;have hw391_3:=hx391_3;have hw391_2:=hx391_2;have hw391_1:=hx391_1;have hw391_0:=hx391_0;cases e391;replace hx391_0:=zzx HB.out hx391_0;replace hx391_1:=zzx HB.out hx391_1;replace hx391_2:=zzx HB.out hx391_2;replace hx391_3:=zzx HB.out hx391_3;replace hx391_4:=zzx HB.out hx391_4;replace hx391_5:=zzx HB.out hx391_5;have HR391_3:=zzm hi391_3;have HC391_3:=zzm hl391_3;clear hi391_3 hl391_3;have HR391_5:=zzm hi391_5;have HC391_5:=zzm hl391_5;clear hi391_5 hl391_5;replace p391:=eq_true p391;replace q391:=eq_true q391;refine start_ (n:=10) (S:=fun w'=>w'.cell? (ad390.add ((x5_1).toNat * 6))=some (.int .i64 ((Qb l0 x5_1).f0))∧w'.cell? ⟨(ad390.add ((x5_1).toNat * 6)).block,(ad390.add ((x5_1).toNat * 6)).off+1,none⟩=some (.int .i64 ((Qb l0 x5_1).f1))∧w'.cell? ⟨(ad390.add ((x5_1).toNat * 6)).block,(ad390.add ((x5_1).toNat * 6)).off+2,none⟩=some (.bool ((Qb l0 x5_1).f2))∧w'.cell? ⟨(ad390.add ((x5_1).toNat * 6)).block,(ad390.add ((x5_1).toNat * 6)).off+3,none⟩=some (.slice A390_3 ((Qb l0 x5_1).f3).length c390_3)∧w'.cell? ⟨(ad390.add ((x5_1).toNat * 6)).block,(ad390.add ((x5_1).toNat * 6)).off+4,none⟩=some (.bool ((Qb l0 x5_1).f4))∧w'.cell? ⟨(ad390.add ((x5_1).toNat * 6)).block,(ad390.add ((x5_1).toNat * 6)).off+5,none⟩=some (.slice A390_5 ((Qb l0 x5_1).f5).length c390_5)∧w'.cell? (ad391.add ((x5_1).toNat * 6))=some (.int .i64 ((Qb l1 x5_1).f0))∧w'.cell? ⟨(ad391.add ((x5_1).toNat * 6)).block,(ad391.add ((x5_1).toNat * 6)).off+1,none⟩=some (.int .i64 ((Qb l1 x5_1).f1))∧w'.cell? ⟨(ad391.add ((x5_1).toNat * 6)).block,(ad391.add ((x5_1).toNat * 6)).off+2,none⟩=some (.bool ((Qb l1 x5_1).f2))∧w'.cell? ⟨(ad391.add ((x5_1).toNat * 6)).block,(ad391.add ((x5_1).toNat * 6)).off+3,none⟩=some (.slice A391_3 ((Qb l1 x5_1).f3).length c391_3)∧w'.cell? ⟨(ad391.add ((x5_1).toNat * 6)).block,(ad391.add ((x5_1).toNat * 6)).off+4,none⟩=some (.bool ((Qb l1 x5_1).f4))∧w'.cell? ⟨(ad391.add ((x5_1).toNat * 6)).block,(ad391.add ((x5_1).toNat * 6)).off+5,none⟩=some (.slice A391_5 ((Qb l1 x5_1).f5).length c391_5)) (ds:=[]) (zzB 10 0) (by kernel_rfl) rfl rfl ⟨(zzx HB.out hw390_0),(zzx HB.out hw390_1),(zzx HB.out hw390_2),(zzx HB.out hw390_3),(zzx HB.out hw390_4),(zzx HB.out hw390_5),(zzx HB.out hw391_0),(zzx HB.out hw391_1),(zzx HB.out hw391_2),(zzx HB.out hw391_3),(zzx HB.out hw391_4),(zzx HB.out hw391_5)⟩ (fun hHeld=>?_);refine with_tabW Qj.tab6 Qj.bits6 (fun HT_ HW_=>?_);generalize wr.drew=w11 at HB HR390_3 HR390_5 HR391_3 HR391_5 hx390_0 hx390_1 hx390_2 hx390_3 hx390_4 hx390_5 hx391_0 hx391_1 hx391_2 hx391_3 hx391_4 hx391_5 hHeld ⊢;refine pure_ (i:=0) (N:=some 17) (v:=?_) (a':=?_) (zzB 10 1) rfl rfl (zzA2 HT_.out) (fun _ _ _ h=>h) (Or.inl ⟨by rfl,?_⟩) ?_ ?_;rotate_left
        ·
         intro w';go_simp;with_reducible rfl
        rotate_left
        ·
         simp only [Act.put,zzq,zzr,zzs,i64_w,i32_w];rfl
        refine pure_ (i:=1) (N:=some 18) (v:=?_) (a':=?_) (zzB 10 3) rfl rfl (zzA2 HT_.out) (fun _ _ _ h=>h) (Or.inl ⟨by rfl,?_⟩) ?_ ?_;rotate_left
        ·
         intro w';go_simp;with_reducible rfl
        rotate_left
        ·
         simp only [Act.put,zzq,zzr,zzs,i64_w,i32_w];rfl
        refine pure_ (i:=2) (N:=some 19) (v:=?_) (a':=?_) (zzB 10 7) rfl rfl (zzA2 HT_.out) (fun _ _ _ h=>h) (Or.inl ⟨by rfl,?_⟩) ?_ ?_;rotate_left
        ·
         intro w';go_simp;with_reducible rfl
        rotate_left
        ·
         simp only [Act.put,zzq,zzr,zzs,i64_w,i32_w];rfl
        refine pure_ (i:=4) (N:=some 21) (v:=?_) (a':=?_) (zzB 10 23) rfl rfl (zzA2 HT_.out) (fun _ _ _ h=>h) (Or.inl ⟨by rfl,?_⟩) ?_ ?_;rotate_left
        ·
         intro w';go_simp;with_reducible rfl
        rotate_left
        ·
         simp only [Act.put,zzq,zzr,zzs,i64_w,i32_w];rfl
        refine pure_ (i:=5) (N:=some 22) (v:=?_) (a':=?_) (zzB 10 55) rfl rfl (zzA2 HT_.out) (fun _ _ _ h=>h) (Or.inl ⟨by rfl,?_⟩) ?_ ?_;rotate_left
        ·
         intro w';go_simp;with_reducible rfl
        rotate_left
        ·
         simp only [Act.put,zzq,zzr,zzs,i64_w,i32_w];rfl
        refine pure_ (i:=6) (N:=some 23) (v:=?_) (a':=?_) (zzB 10 119) rfl rfl (zzA2 HT_.out) (fun _ _ _ h=>h) (Or.inl ⟨by rfl,?_⟩) ?_ ?_;rotate_left
        ·
         intro w';go_simp;with_reducible rfl
        rotate_left
        ·
         simp only [Act.put,zzq,zzr,zzs,i64_w,i32_w];rfl
        refine take_ (i:=3) (N:=some 20) (v:=?_) (a':=?_) (zzB 10 127) rfl rfl (take_ofW HT_.out HW_.out (by kernel_rfl)) (fun _ _ _ h=>h) (Or.inl ⟨by rfl,?_⟩) hHeld ?_ ?_;rotate_left
        ·
         rintro w' ⟨s0,s1,s2,s3,s4,s5,s6,s7,s8,s9,s10,s11⟩;go_simp;with_reducible rfl
        rotate_left
        ·
         simp only [Act.put,zzq,zzr,zzs,i64_w,i32_w];rfl
        refine take_ (i:=7) (N:=some 24) (v:=?_) (a':=?_) (zzB 10 255) rfl rfl (take_ofW HT_.out HW_.out (by kernel_rfl)) (fun _ _ _ h=>h) (Or.inl ⟨by rfl,?_⟩) hHeld ?_ ?_;rotate_left
        ·
         rintro w' ⟨s0,s1,s2,s3,s4,s5,s6,s7,s8,s9,s10,s11⟩;go_simp;with_reducible rfl
        rotate_left
        ·
         simp only [Act.put,zzq,zzr,zzs,i64_w,i32_w];rfl
        refine one_ (i:=8) (N:=some 25) (zzB 10 511) rfl rfl (one_of HT_.out (by kernel_rfl)) (by decide) (fun K hK=>?_);refine goes_ Try.func28 (by kernel_rfl) rfl #[.agg #[.int .i64 ((Qb l0 x5_1).f0),.int .i64 ((Qb l0 x5_1).f1),.bool ((Qb l0 x5_1).f2),.slice A390_3 ((Qb l0 x5_1).f3).length c390_3,.bool ((Qb l0 x5_1).f4),.slice A390_5 ((Qb l0 x5_1).f5).length c390_5],.agg #[.int .i64 ((Qb l1 x5_1).f0),.int .i64 ((Qb l1 x5_1).f1),.bool ((Qb l1 x5_1).f2),.slice A391_3 ((Qb l1 x5_1).f3).length c391_3,.bool ((Qb l1 x5_1).f4),.slice A391_5 ((Qb l1 x5_1).f5).length c391_5]] (by rfl) rfl rfl zzM2 ?_;with_reducible refine (Rb.calls k1 ((Qb l0 x5_1).f0) ((Qb l0 x5_1).f1) ((Qb l0 x5_1).f2) _ _ ((Qb l0 x5_1).f3) ((Qb l0 x5_1).f4) _ _ ((Qb l0 x5_1).f5) ((Qb l1 x5_1).f0) ((Qb l1 x5_1).f1) ((Qb l1 x5_1).f2) _ _ ((Qb l1 x5_1).f3) ((Qb l1 x5_1).f4) _ _ ((Qb l1 x5_1).f5) false _ ?side1 ?side2 ?side3 ?side4 ?side5 ?side6 ?side7 ?side8 A7.out).mono ?_
        (case side1=>repeat (first|exact (Kd.C_below HR390_3.out HB.out)|(with_reducible refine Kd.C_alloc ?_ _)|(with_reducible refine Kd.C_drewN ?_ _)|(with_reducible refine Kd.C_drew ?_)))
        (case side2=>exact HC390_3.out)
        (case side3=>repeat (first|exact (Kd.C_below HR390_5.out HB.out)|(with_reducible refine Kd.C_alloc ?_ _)|(with_reducible refine Kd.C_drewN ?_ _)|(with_reducible refine Kd.C_drew ?_)))
        (case side4=>exact HC390_5.out)
        (case side5=>repeat (first|exact (Kd.C_below HR391_3.out HB.out)|(with_reducible refine Kd.C_alloc ?_ _)|(with_reducible refine Kd.C_drewN ?_ _)|(with_reducible refine Kd.C_drew ?_)))
        (case side6=>exact HC391_3.out)
        (case side7=>repeat (first|exact (Kd.C_below HR391_5.out HB.out)|(with_reducible refine Kd.C_alloc ?_ _)|(with_reducible refine Kd.C_drewN ?_ _)|(with_reducible refine Kd.C_drew ?_)))
        (case side8=>exact HC391_5.out);rintro e w12 ⟨rfl,hb⟩;refine ⟨_,rfl,?_⟩;have n0_:=zzm (zzp zzh1 hb);clear HB;have HB:=n0_;clear n0_
        (try clear hb)
        (try clear hb2)
        (try clear hk)
        (try clear hi);refine hK.out _ _ ⟨(zzx HB.out hw390_0),(zzx HB.out hw390_1),(zzx HB.out hw390_2),(zzx HB.out hw390_3),(zzx HB.out hw390_4),(zzx HB.out hw390_5),(zzx HB.out hw391_0),(zzx HB.out hw391_1),(zzx HB.out hw391_2),(zzx HB.out hw391_3),(zzx HB.out hw391_4),(zzx HB.out hw391_5)⟩ (fun hHeld=>?_);clear hK K;refine norm_ (a':=?_) ?_ ?_;rotate_left
        ·
         show Act.put _ (some 25) _ = _;simp only [Act.put,zzq,zzr,zzs,i64_w,i32_w];rfl
        refine pure_ (i:=9) (N:=some 26) (v:=?_) (a':=?_) (zzB 10 1023) rfl rfl (zzA2 HT_.out) (fun _ _ _ h=>h) (Or.inl ⟨by rfl,?_⟩) ?_ ?_;rotate_left
        ·
         intro w';go_simp;with_reducible rfl
        rotate_left
        ·
         simp only [Act.put,zzq,zzr,zzs,i64_w,i32_w];rfl
        refine done_ (done_of HT_.out (by kernel_rfl)) ?_;try go_wp2
        go_ret;exact ⟨by first|rfl|(simp [errW_none,errW_some] <;> rfl)|(simp [*,errW_none,errW_some] <;> rfl),zzh1⟩
      ·
       rw [if_neg c6] at H;exact absurd H (by simp)
     ·
      rw [if_neg c5] at H;exact absurd H (by simp)
    ·
     rw [if_neg c4] at H;have c4b0:decide (x5_1 < (l0.length:Int))=false:=decide_eq_false c4;clear c4;obtain rfl:=Option.some.inj H;go_wp2;go_ret;exact ⟨by first|rfl|(simp [errW_none,errW_some] <;> rfl)|(simp [*,errW_none,errW_some] <;> rfl),zzh1⟩
 ·
  rw [if_neg c3] at H;have c3b0:((l0.length:Int)==(l1.length:Int))=false:=beq_eq_false_iff_ne.mpr c3;have c3b1:((l0.length:Int) != (l1.length:Int))=true:=bne_iff_ne.mpr c3;have c3b2:(l0.length==l1.length)=false:=by first|simpa using c3|(simp at c3 ⊢;omega)
  obtain rfl:=Option.some.inj H;go_enter Try.func18,Try.ntmps18;go_wp2;go_ret;exact ⟨by first|rfl|(simp [errW_none,errW_some] <;> rfl)|(simp [*,errW_none,errW_some] <;> rfl),zzh1⟩
end Go.Proofs.Ytkhjmhdgcmffaaa.U
namespace Go.Proofs.Ytkhjmhdgcmffaaa.UQ
open Go.RowKit Go.Proofs.YtkhjmhdgcmffaaaW.PrintWords
set_option linter.unusedVariables false
set_option linter.unusedSimpArgs false
theorem ev_succ {α:Type} {g:Nat→Option α} {r : α} (h:Ev (fun k=>g (k+1)) r):Ev g r:=Ev.step (f:=fun k=>g (k+1)) (fun _=>rfl) h
theorem ev_of_all {α:Type} {g:Nat→Option α} {r : α} (h:∀ k,g k=some r):Ev g r:=⟨0,fun k _=>h k⟩
theorem ev_some {α:Type} (r : α):Ev (fun _=>some r) r:=ev_of_all fun _=>rfl
def Evs {α:Type} (g:Nat→Option α) (Q : α→Prop):Prop:=∃ r,Ev g r∧Q r
theorem Evs.of {α:Type} {g:Nat→Option α} {Q : α→Prop} {r : α} (h:Ev g r) (hq:Q r):Evs g Q:=⟨r,h,hq⟩
theorem Evs.done {α:Type} {Q : α→Prop} {r : α} (hq:Q r):Evs (fun _=>some r) Q:=⟨r,ev_some r,hq⟩
theorem Evs.mono {α:Type} {g:Nat→Option α} {Q Q' : α→Prop} (h:Evs g Q) (hq:∀ r,Q r→Q' r):Evs g Q':=by
 obtain ⟨r,h1,h2⟩:=h
 exact ⟨r,h1,hq r h2⟩
theorem Evs.succ {α:Type} {g:Nat→Option α} {Q : α→Prop} (h:Evs (fun k=>g (k+1)) Q):Evs g Q:=by
 obtain ⟨r,h1,h2⟩:=h
 exact ⟨r,ev_succ h1,h2⟩
theorem Evs.bind {α β:Type} {g:Nat→Option α} {f:Nat→α→Option β} {Q : α→Prop} {R : β→Prop} (h:Evs g Q) (k:∀ a,Q a→Evs (fun n=>f n a) R):Evs (fun n=>(g n).bind (f n)) R:=by
 obtain ⟨a,h1,h2⟩:=h
 obtain ⟨r,k1,k2⟩:=k a h2
 exact ⟨r,Ev.bind h1 k1,k2⟩
theorem bsome {α β:Type} (a : α) (f : α→Option β):(some a).bind f=f a:=Eq.trans (Option.bind_some a f) (Eq.refl _)
end Go.Proofs.Ytkhjmhdgcmffaaa.UQ
namespace Go.Proofs.Ytkhjmhdgcmffaaa.UQ
open Go.RowKit Go.Proofs.Ytkhjmhdgcmffaaa.U Go.Proofs.YtkhjmhdgcmffaaaW.PrintWords Go.Proofs.YtkhjmhdgcmffaaaW.PrintLast
set_option linter.unusedVariables false
set_option linter.unusedSimpArgs false
theorem wrap_id {x:Int} (h0 : -9223372036854775808≤x) (h1:x < 9223372036854775808):wrap64 x=x:=by unfold wrap64;omega
theorem tmod_range {x n:Int} (h : 0≤x) (hn : 1≤n) : 0≤Int.tmod x n∧Int.tmod x n < n:=by
 rw [Int.tmod_eq_emod_of_nonneg h]
 exact ⟨Int.emod_nonneg _ (by omega),Int.emod_lt_of_pos _ (by omega)⟩
theorem xor_nonneg {a b:Int} (h1 : 0≤a) (h2:a < 4611686018427387904) (h3 : 0≤b) (h4:b < 4611686018427387904) : 0≤Go.bits .xor .i64 a b:=by
 obtain ⟨A,rfl⟩:=Int.eq_ofNat_of_zero_le h1
 obtain ⟨B,rfl⟩:=Int.eq_ofNat_of_zero_le h3
 have hx:A ^^^ B < 2 ^ 62:=Nat.xor_lt_two_pow (by omega) (by omega)
 have e1:(BitVec.ofInt 64 (A:Int)).toNat=A:=by
  rw [BitVec.ofInt_natCast,BitVec.toNat_ofNat];exact Nat.mod_eq_of_lt (by omega)
 have e2:(BitVec.ofInt 64 (B:Int)).toNat=B:=by
  rw [BitVec.ofInt_natCast,BitVec.toNat_ofNat];exact Nat.mod_eq_of_lt (by omega)
 show 0≤IntKind.i64.wrap ((BitVec.ofInt 64 (A:Int) ^^^ BitVec.ofInt 64 (B:Int)).toNat:Int)
 rw [BitVec.toNat_xor,e1,e2]
 simp only [IntKind.wrap,IntKind.bits,IntKind.signed]
 simp
 omega
def Bytes (b:List Int):Prop:=∀ x∈b,0≤x∧x≤255
theorem rd_bytes {b:List Int} (h:Bytes b) (i:Int) : 0≤rd b i∧rd b i≤255:=by
 unfold rd
 rw [List.getD_eq_getElem?_getD]
 cases e:b[i.toNat]? with
 | none=>simp
 | some x=>exact h x (List.mem_of_getElem? e)
theorem pick_ev (b:List Int) (p n:Int) (hb:Bytes b) (hl:b.length≤2000) (h0 : 0≤p) (h1:p≤1000000000) (hn : 1≤n) :
  ∃ v,Ev (fun k=>Qd.f k b p n) (v,p+1)∧0≤v∧v < n:=by
 have e1:wrap64 (p+1)=p+1:=wrap_id (by omega) (by omega)
 have e2:wrap64 (p+1 - 1)=p:=by rw [wrap_id (by omega) (by omega)];omega
 by_cases hz:b.length=0
 ·refine ⟨0,⟨1,fun k hk=>?_⟩,by omega,by omega⟩
  obtain ⟨k,rfl⟩:∃ m,k=m+1:=⟨k - 1,by omega⟩
  show Qd.f (k+1) b p n = _
  unfold Qd.f
  rw [if_neg (by omega),e1]
  simp [Qd.j0,hz]
 ·have hz' : (((b.length:Int)==0)=true)=False:=by simp;intro h;simp [h] at hz
  by_cases hlt:p < (b.length:Int)
  ·obtain ⟨r0,r1⟩:=rd_bytes hb p
   have:=tmod_range (x:=rd b p) r0 hn
   refine ⟨Int.tmod (rd b p) n,⟨1,fun k hk=>?_⟩,this.1,this.2⟩
   obtain ⟨k,rfl⟩:∃ m,k=m+1:=⟨k - 1,by omega⟩
   show Qd.f (k+1) b p n = _
   unfold Qd.f
   rw [if_neg (by omega),e1]
   simp only [Qd.j0,e2,hz']
   rw [if_neg (by simp),if_pos hlt,if_pos h0,if_neg (by omega),wrap_id (by omega) (by omega)]
  ·obtain ⟨q0,q1⟩:=tmod_range (x:=p) (n:=(b.length:Int)) h0 (by omega)
   obtain ⟨r0,r1⟩:=rd_bytes hb (Int.tmod p (b.length:Int))
   have f1:wrap64 (p * 7)=p * 7:=wrap_id (by omega) (by omega)
   have f2:wrap64 (p * 7+3)=p * 7+3:=wrap_id (by omega) (by omega)
   obtain ⟨q2,q3⟩:=tmod_range (x:=p * 7+3) (n:=(b.length:Int)) (by omega) (by omega)
   obtain ⟨r2,r3⟩:=rd_bytes hb (Int.tmod (p * 7+3) (b.length:Int))
   have d0 : 0≤Int.tdiv p (b.length:Int)∧Int.tdiv p (b.length:Int)≤p:=by
    rw [Int.tdiv_eq_ediv_of_nonneg h0]
    exact ⟨Int.ediv_nonneg h0 (by omega),Int.ediv_le_self _ h0⟩
   obtain ⟨x,hx⟩:∃ x,x=rd b (Int.tmod p (b.length:Int)):=⟨_,rfl⟩
   obtain ⟨y,hy⟩:∃ y,y=rd b (Int.tmod (p * 7+3) (b.length:Int)):=⟨_,rfl⟩
   obtain ⟨z,hz2⟩:∃ z,z=Int.tdiv p (b.length:Int):=⟨_,rfl⟩
   obtain ⟨s,hs⟩:∃ s,s=x * 131+y * 1117+p * 29+z * 53:=⟨_,rfl⟩
   rw [← hx] at r0 r1
   rw [← hy] at r2 r3
   rw [← hz2] at d0
   have s0 : 0≤s∧s < 4611686018427387904:=by omega
   have t0 : 0≤Int.tdiv s 64∧Int.tdiv s 64≤s:=by
    rw [Int.tdiv_eq_ediv_of_nonneg s0.1]
    exact ⟨Int.ediv_nonneg s0.1 (by omega),Int.ediv_le_self _ s0.1⟩
   have w1:wrap64 x=x:=wrap_id (by omega) (by omega)
   have w2:wrap64 y=y:=wrap_id (by omega) (by omega)
   have w3:wrap64 z=z:=wrap_id (by omega) (by omega)
   have w4:wrap64 (x * 131)=x * 131:=wrap_id (by omega) (by omega)
   have w5:wrap64 (y * 1117)=y * 1117:=wrap_id (by omega) (by omega)
   have w6:wrap64 (p * 29)=p * 29:=wrap_id (by omega) (by omega)
   have w7:wrap64 (z * 53)=z * 53:=wrap_id (by omega) (by omega)
   have w8:wrap64 (x * 131+y * 1117)=x * 131+y * 1117:=wrap_id (by omega) (by omega)
   have w9:wrap64 (x * 131+y * 1117+p * 29)=x * 131+y * 1117+p * 29:=wrap_id (by omega) (by omega)
   have wa:wrap64 (x * 131+y * 1117+p * 29+z * 53)=s:=by rw [hs];exact wrap_id (by omega) (by omega)
   have wb:wrap64 (Int.tdiv s 64)=Int.tdiv s 64:=wrap_id (by omega) (by omega)
   have:=tmod_range (x:=Go.bits .xor .i64 s (Int.tdiv s 64)) (n:=n) (xor_nonneg s0.1 s0.2 t0.1 (by omega)) hn
   refine ⟨_,⟨1,fun k hk=>?_⟩,this.1,this.2⟩
   obtain ⟨k,rfl⟩:∃ m,k=m+1:=⟨k - 1,by omega⟩
   show Qd.f (k+1) b p n = _
   unfold Qd.f
   rw [if_neg (by omega),e1]
   simp only [Qd.j0,e2,hz',f1,f2]
   rw [if_neg (by simp),if_neg hlt,if_neg (by omega),if_pos q0,if_pos q1,if_pos q2,if_pos q3,if_neg (by omega),← hx,← hy,← hz2,w1,w2,w3,w4,w5,w6,w7,w8,w9,wa,wb]
theorem pick_evs (b:List Int) (p n:Int) (hb:Bytes b) (hl:b.length≤2000) (h0 : 0≤p) (h1:p≤1000000000) (hn : 1≤n) :
  Evs (fun k=>Qd.f k b p n) (fun r=>0≤r.1∧r.1 < n∧r.2=p+1):=by
 obtain ⟨v,h,v0,v1⟩:=pick_ev b p n hb hl h0 h1 hn
 exact ⟨_,h,v0,v1,rfl⟩
theorem Rh (a b c:Int):Qs.f a b c=some (decide (b≤a∧a≤c)):=by
 unfold Qs.f
 by_cases h:a ≥ b
 ·rw [if_pos h]
  have:(b≤a∧a≤c)↔a≤c:=⟨fun h=>h.2,fun h'=>⟨h,h'⟩⟩
  simp [this]
 ·rw [if_neg h]
  have:¬ (b≤a∧a≤c):=fun h'=>h h'.1
  simp [this]
theorem spec_l6In_eq (a b c:Int):Qr.f a b c=some (decide (b≤a∧a≤c)):=by
 unfold Qr.f
 by_cases h:a ≥ b
 ·rw [if_pos h]
  have:(b≤a∧a≤c)↔a≤c:=⟨fun h=>h.2,fun h'=>⟨h,h'⟩⟩
  simp [this]
 ·rw [if_neg h]
  have:¬ (b≤a∧a≤c):=fun h'=>h h'.1
  simp [this]
theorem rd_nat (l:List Int) (j:Nat) (h:j < l.length):rd l (j:Int)=l[j]:=by
 unfold rd
 rw [Int.toNat_natCast,List.getD_eq_getElem?_getD,List.getElem?_eq_getElem h]
 rfl
theorem drop_int {l:List Int} {i:Nat} (h:i < l.length):l.drop i=rd l i::l.drop (i+1):=by
 rw [List.drop_eq_getElem_cons h,rd_nat l i h]
def ab (l:List Int):Bool:=decide (∀ x∈l,0≤x∧x≤255)
theorem ab_cons (x:Int) (l:List Int):ab (x::l)=(decide (0≤x∧x≤255)&&ab l):=by
 rw [Bool.eq_iff_iff]
 simp [ab,List.forall_mem_cons]
theorem ab_nil:ab []=true:=by simp [ab]
theorem isByte_eq (a:Int):Rg.f a=some (decide (0≤a∧a≤255)):=by
 unfold Rg.f
 by_cases h:a ≥ 0
 ·rw [if_pos h]
  have:(0≤a∧a≤255)↔a≤255:=⟨fun h=>h.2,fun h'=>⟨h,h'⟩⟩
  simp [this]
 ·rw [if_neg h]
  have:¬ (0≤a∧a≤255):=fun h'=>h h'.1
  simp [this]
theorem baseValid_eq (a b:Int):Q7.f a b=some (decide ((0≤a∧a≤99999)∧(0≤b∧b≤99999))):=by
 unfold Q7.f
 rw [Rh,Rh]
 by_cases h : 0≤a∧a≤99999 <;> simp [h]
theorem idValid_eqB (a:Int):Ra.f a=some (decide (0≤a∧a≤254)):=by
 unfold Ra.f
 rw [Rh]
 rfl
theorem implAll_loop (l:List Int) (hl:l.length≤1000000000000000):∀ (d i:Nat),l.length - i=d→i≤l.length→Ev (fun k=>Qt.l0 k l (l.length:Int) (i:Int)) (ab (l.drop i)):=by
 intro d
 induction d with
 | zero=>
  intro i hd hi
  rw [show l.drop i = [] from List.drop_eq_nil_of_le (by omega),ab_nil]
  refine ev_succ ?_
  simp only [Qt.l0,if_neg (show ¬ (i:Int) < (l.length:Int) by omega)]
  exact ev_some _
 | succ d ih=>
  intro i hd hi
  have e1:wrap64 ((i:Int)+1)=((i+1:Nat):Int):=by rw [wrap_id (by omega) (by omega)];omega
  rw [drop_int (show i < l.length by omega),ab_cons]
  refine ev_succ ?_
  simp only [Qt.l0,if_pos (show (i:Int) < (l.length:Int) by omega),if_pos (show (0:Int)≤i by omega),isByte_eq,bsome,decide_eq_true_eq,e1]
  by_cases h : 0≤rd l (i:Int)∧rd l (i:Int)≤255
  ·simp only [if_pos h,decide_eq_true h,Bool.true_and]
   exact ih (i+1) (by omega) (by omega)
  ·simp only [if_neg h,decide_eq_false h,Bool.false_and]
   exact ev_some _
theorem implAll (l:List Int) (hl:l.length≤1000000000000000):Ev (fun k=>Qt.f k l) (ab l):=by
 unfold Qt.f
 have:=implAll_loop l hl l.length 0 (by omega) (by omega)
 simpa using this
theorem specAll_loop (l:List Int) (hl:l.length≤1000000000000000):∀ (d i:Nat),l.length - i=d→i≤l.length→Ev (fun k=>Qx.l0 k l (i:Int)) (ab (l.drop i)):=by
 intro d
 induction d with
 | zero=>
  intro i hd hi
  rw [show l.drop i = [] from List.drop_eq_nil_of_le (by omega),ab_nil]
  refine ev_succ ?_
  simp only [Qx.l0,if_neg (show ¬ (i:Int) < (l.length:Int) by omega)]
  exact ev_some _
 | succ d ih=>
  intro i hd hi
  have e1:wrap64 ((i:Int)+1)=((i+1:Nat):Int):=by rw [wrap_id (by omega) (by omega)];omega
  rw [drop_int (show i < l.length by omega),ab_cons]
  refine ev_succ ?_
  simp only [Qx.l0,if_pos (show (i:Int) < (l.length:Int) by omega),if_pos (show (0:Int)≤i by omega),spec_l6In_eq,bsome,decide_eq_true_eq,e1]
  by_cases h : 0≤rd l (i:Int)∧rd l (i:Int)≤255
  ·simp only [if_pos h,decide_eq_true h,Bool.true_and]
   exact ih (i+1) (by omega) (by omega)
  ·simp only [if_neg h,decide_eq_false h,Bool.false_and]
   exact ev_some _
theorem specAll (l:List Int) (hl:l.length≤1000000000000000):Ev (fun k=>Qx.f k l) (ab l):=by
 unfold Qx.f
 have:=specAll_loop l hl l.length 0 (by omega) (by omega)
 simpa using this
def pv (has:Bool) (l:List Int):Bool:=if has=true then decide (l.length≤12)&&ab l else decide (l.length=0)
theorem implPart (has:Bool) (l:List Int) (hl:l.length≤1000000000000000):Ev (fun k=>Qu.f k has l) (pv has l):=by
 unfold Qu.f pv
 cases has with
 | true=>
  simp only [if_true]
  by_cases h:(l.length:Int)≤12
  ·simp only [if_pos h,decide_eq_true (show l.length≤12 by omega),Bool.true_and]
   exact Ev.bind (implAll l hl) (ev_some _)
  ·simp only [if_neg h,decide_eq_false (show ¬ l.length≤12 by omega),Bool.false_and]
   exact ev_some _
 | false=>
  simp only [Bool.false_eq_true,if_false]
  rw [show ((l.length:Int)==0)=decide (l.length=0) by rw [Bool.eq_iff_iff];simp]
  exact ev_some _
theorem specPart (has:Bool) (l:List Int) (hl:l.length≤1000000000000000):Ev (fun k=>Qv.f k has l) (pv has l):=by
 unfold Qv.f pv
 cases has with
 | true=>
  simp only [if_true]
  refine Ev.bind (specAll l hl) ?_
  by_cases h:ab l=true
  ·simp only [if_pos h,h,Bool.and_true]
   rw [show decide ((l.length:Int)≤12)=decide (l.length≤12) by rw [decide_eq_decide];omega]
   exact ev_some _
  ·simp only [if_neg h,show ab l=false by simpa using h,Bool.and_false]
   exact ev_some _
 | false=>
  simp only [Bool.false_eq_true,if_false]
  by_cases h:l.length=0
  ·simp only [if_pos (show (l.length:Int)=0 by omega),decide_eq_true h]
   refine Ev.bind (specAll l hl) ?_
   have hn:l = []:=List.length_eq_zero_iff.1 h
   subst hn
   simp only [ab_nil,if_true]
   exact ev_some _
  ·simp only [if_neg (show ¬ (l.length:Int)=0 by omega),decide_eq_false h]
   exact ev_some _
abbrev Rc:=S30
abbrev rr (l:List Rc) (i:Int):Rc:=Qb l i
theorem rr_nat (l:List Rc) (j:Nat) (h:j < l.length):rr l (j:Int)=l[j]:=by
 unfold rr Qb
 rw [Int.toNat_natCast,List.getD_eq_getElem?_getD,List.getElem?_eq_getElem h]
 rfl
def smallR (r:Rc):Prop:=r.f3.length≤1000000000000000∧r.f5.length≤1000000000000000
def smallRs (l:List Rc):Prop:=l.length≤1000000000000000∧∀ r∈l,smallR r
theorem smallRs_at {l:List Rc} (h:smallRs l) (j:Nat) (hj:j < l.length):smallR (rr l (j:Int)):=by
 rw [rr_nat l j hj]
 exact h.2 _ (List.getElem_mem hj)
def rv (r:Rc):Bool:=decide ((0≤r.f0∧r.f0≤99999)∧(0≤r.f1∧r.f1≤99999))&&(pv r.f2 r.f3&&pv r.f4 r.f5)
theorem implRec (r:Rc) (h:smallR r):Ev (fun k=>Q3.f k r.f0 r.f1 r.f2 r.f3 r.f4 r.f5) (rv r):=by
 unfold Q3.f rv
 simp only [baseValid_eq,bsome,decide_eq_true_eq]
 by_cases h0:(0≤r.f0∧r.f0≤99999)∧(0≤r.f1∧r.f1≤99999)
 ·simp only [if_pos h0,decide_eq_true h0,Bool.true_and]
  refine Ev.bind (implPart _ _ h.1) ?_
  by_cases h1:pv r.f2 r.f3=true
  ·simp only [if_pos h1,h1,Bool.true_and]
   exact Ev.bind (implPart _ _ h.2) (ev_some _)
  ·simp only [if_neg h1,show pv r.f2 r.f3=false by simpa using h1,Bool.false_and]
   exact ev_some _
 ·simp only [if_neg h0,decide_eq_false h0,Bool.false_and]
  exact ev_some _
theorem specRec (r:Rc) (h:smallR r):Ev (fun k=>Q4.f k r.f0 r.f1 r.f2 r.f3 r.f4 r.f5) (rv r):=by
 unfold Q4.f rv
 simp only [spec_l6In_eq,bsome,decide_eq_true_eq]
 by_cases h0 : 0≤r.f0∧r.f0≤99999
 ·by_cases h1 : 0≤r.f1∧r.f1≤99999
  ·simp only [if_pos h0,if_pos h1,decide_eq_true (show (0≤r.f0∧r.f0≤99999)∧(0≤r.f1∧r.f1≤99999) from ⟨h0,h1⟩),Bool.true_and]
   refine Ev.bind (specPart _ _ h.1) ?_
   by_cases h2:pv r.f2 r.f3=true
   ·simp only [if_pos h2,h2,Bool.true_and]
    exact Ev.bind (specPart _ _ h.2) (ev_some _)
   ·simp only [if_neg h2,show pv r.f2 r.f3=false by simpa using h2,Bool.false_and]
    exact ev_some _
  ·simp only [if_pos h0,if_neg h1,decide_eq_false (show ¬ ((0≤r.f0∧r.f0≤99999)∧(0≤r.f1∧r.f1≤99999)) from fun h=>h1 h.2),Bool.false_and]
   exact ev_some _
 ·simp only [if_neg h0,decide_eq_false (show ¬ ((0≤r.f0∧r.f0≤99999)∧(0≤r.f1∧r.f1≤99999)) from fun h=>h0 h.1),Bool.false_and]
  exact ev_some _
def RF (l:List Rc) (i:Nat):Prop:=∀ j,i≤j→j < l.length→rv (rr l j)=true∧(0 < j→(rr l ((j:Int) - 1)).f0 < (rr l j).f0)
theorem RF_end {l:List Rc} {i:Nat} (h:l.length≤i):RF l i:=fun j h1 h2=>by omega
theorem RF_step {l:List Rc} {i:Nat} (h:i < l.length):RF l i↔(rv (rr l i)=true∧(0 < i→(rr l ((i:Int) - 1)).f0 < (rr l i).f0))∧RF l (i+1):=by
 constructor
 ·intro hv
  exact ⟨hv i (Nat.le_refl _) h,fun j h1 h2=>hv j (by omega) h2⟩
 ·rintro ⟨h1,h2⟩ j h3 h4
  by_cases e:j=i
  ·subst e;exact h1
  ·exact h2 j (by omega) h4
theorem implRecs_loop (l:List Rc) (hl:smallRs l) (a0 a1:Bool) (a2 a3 a4:Int):∀ (d i:Nat),l.length - i=d→i≤l.length→Evs (fun k=>Qe.l0 k l (l.length:Int) (i:Int) a0 a1 a2 a3 a4 l) (fun b=>b=true↔RF l i):=by
 intro d
 induction d with
 | zero=>
  intro i hd hi
  refine Evs.succ ?_
  simp only [Qe.l0,if_neg (show ¬ (i:Int) < (l.length:Int) by omega)]
  exact Evs.done (by simp;exact RF_end (by omega))
 | succ d ih=>
  intro i hd hi
  have hll:=hl.1
  have hn:=ih (i+1) (by omega) (by omega)
  have e1:wrap64 ((i:Int)+1)=((i+1:Nat):Int):=by rw [wrap_id (by omega) (by omega)];omega
  have e2:wrap64 ((i:Int) - 1)=(i:Int) - 1:=wrap_id (by omega) (by omega)
  rw [RF_step (show i < l.length by omega)]
  refine Evs.succ ?_
  simp only [Qe.l0,if_pos (show (i:Int) < (l.length:Int) by omega),if_pos (show (0:Int)≤i by omega),e1,e2]
  refine Evs.bind (Evs.of (implRec (rr l (i:Int)) (smallRs_at hl i (by omega))) rfl:Evs _ (fun x=>x=rv (rr l (i:Int)))) ?_
  rintro _ rfl
  by_cases h1:rv (rr l (i:Int))=true
  ·simp only [if_pos h1]
   by_cases h0:(i:Int) > 0
   ·simp only [if_pos h0,if_pos (show 0≤(i:Int) - 1 by omega),if_pos (show (i:Int) - 1 < (l.length:Int) by omega)]
    by_cases h2:(rr l ((i:Int) - 1)).f0 ≥ (rr l (i:Int)).f0
    ·simp only [if_pos h2]
     refine Evs.done ?_
     simp only [Bool.false_eq_true,false_iff]
     rintro ⟨⟨_,h3⟩,_⟩
     have:=h3 (by omega)
     omega
    ·simp only [if_neg h2]
     refine hn.mono fun b hb=>?_
     rw [hb]
     exact ⟨fun h=>⟨⟨h1,fun _=>by omega⟩,h⟩,fun h=>h.2⟩
   ·simp only [if_neg h0]
    refine hn.mono fun b hb=>?_
    rw [hb]
    exact ⟨fun h=>⟨⟨h1,fun h'=>absurd h' (by omega)⟩,h⟩,fun h=>h.2⟩
  ·simp only [if_neg h1]
   exact Evs.done (by simp only [Bool.false_eq_true,false_iff];exact fun h=>h1 h.1.1)
theorem specRecs_loop (l:List Rc) (hl:smallRs l):∀ (d i:Nat),l.length - i=d→i≤l.length→Evs (fun k=>Qm.l0 k l (i:Int)) (fun b=>b=true↔RF l i∧1≤l.length∧l.length≤6):=by
 intro d
 induction d with
 | zero=>
  intro i hd hi
  refine Evs.succ ?_
  simp only [Qm.l0,if_neg (show ¬ (i:Int) < (l.length:Int) by omega),spec_l6In_eq,bsome]
  exact Evs.done (by simp only [decide_eq_true_eq];exact ⟨fun h=>⟨RF_end (by omega),by omega,by omega⟩,fun h=>by have:=h.2;omega⟩)
 | succ d ih=>
  intro i hd hi
  have hll:=hl.1
  have hn:=ih (i+1) (by omega) (by omega)
  have e1:wrap64 ((i:Int)+1)=((i+1:Nat):Int):=by rw [wrap_id (by omega) (by omega)];omega
  have e2:wrap64 ((i:Int) - 1)=(i:Int) - 1:=wrap_id (by omega) (by omega)
  rw [RF_step (show i < l.length by omega)]
  refine Evs.succ ?_
  simp only [Qm.l0,if_pos (show (i:Int) < (l.length:Int) by omega),if_pos (show (0:Int)≤i by omega),e1,e2]
  refine Evs.bind (Evs.of (specRec (rr l (i:Int)) (smallRs_at hl i (by omega))) rfl:Evs _ (fun x=>x=rv (rr l (i:Int)))) ?_
  rintro _ rfl
  by_cases h1:rv (rr l (i:Int))=true
  ·simp only [if_pos h1]
   by_cases h0:(i:Int) > 0
   ·simp only [if_pos h0,if_pos (show 0≤(i:Int) - 1 by omega),if_pos (show (i:Int) - 1 < (l.length:Int) by omega)]
    by_cases h2:(rr l ((i:Int) - 1)).f0 ≥ (rr l (i:Int)).f0
    ·simp only [if_pos h2]
     refine Evs.done ?_
     simp only [Bool.false_eq_true,false_iff]
     rintro ⟨⟨⟨_,h3⟩,_⟩,_⟩
     have:=h3 (by omega)
     omega
    ·simp only [if_neg h2]
     refine hn.mono fun b hb=>?_
     rw [hb]
     exact ⟨fun h=>⟨⟨⟨h1,fun _=>by omega⟩,h.1⟩,h.2⟩,fun h=>⟨h.1.2,h.2⟩⟩
   ·simp only [if_neg h0]
    refine hn.mono fun b hb=>?_
    rw [hb]
    exact ⟨fun h=>⟨⟨⟨h1,fun h'=>absurd h' (by omega)⟩,h.1⟩,h.2⟩,fun h=>⟨h.1.2,h.2⟩⟩
  ·simp only [if_neg h1]
   exact Evs.done (by simp only [Bool.false_eq_true,false_iff];exact fun h=>h1 h.1.1.1)
def VB (a1:Bool) (a2 a3 a4:Int) (l:List Rc):Prop:=
 (if a2=255 then a3=0∧a4=0∧a1=false else (0≤a2∧a2≤254)∧(0≤a3∧a3≤99)∧(0≤a4∧a4≤9999))∧(1≤l.length∧l.length≤6)∧(a1=true→l.length=1)∧RF l 0
theorem implB_j0 (a0 a1:Bool) (a2 a3 a4:Int) (l:List Rc) (hl:smallRs l):Evs (fun k=>Qe.j0 k a0 a1 a2 a3 a4 l) (fun b=>b=true↔(1≤l.length∧l.length≤6)∧(a1=true→l.length=1)∧RF l 0):=by
 have hr:=implRecs_loop l hl a0 a1 a2 a3 a4 l.length 0 (by omega) (by omega)
 refine Evs.succ ?_
 simp only [Qe.j0,Rh,bsome,decide_eq_true_eq]
 by_cases h : 1≤(l.length:Int)∧(l.length:Int)≤6
 ·simp only [if_pos h]
  cases a1 with
  | true=>
   simp only [if_true]
   refine Evs.succ ?_
   by_cases h1:l.length=1
   ·simp only [Qe.j1,show ((l.length:Int) != 1)=false by rw [h1];rfl,Bool.false_eq_true,if_false]
    refine hr.mono fun b hb=>?_
    rw [hb]
    exact ⟨fun h2=>⟨by omega,fun _=>h1,h2⟩,fun h2=>h2.2.2⟩
   ·simp only [Qe.j1,show ((l.length:Int) != 1)=true by simp;omega,if_true]
    exact Evs.done (by simp only [Bool.false_eq_true,false_iff];exact fun h2=>h1 (h2.2.1 trivial))
  | false=>
   simp only [Bool.false_eq_true,if_false]
   refine Evs.succ ?_
   simp only [Qe.j1,Bool.false_eq_true,if_false]
   refine hr.mono fun b hb=>?_
   rw [hb]
   exact ⟨fun h2=>⟨by omega,(fun h3=>h3.elim),h2⟩,fun h2=>h2.2.2⟩
 ·simp only [if_neg h]
  refine Evs.succ ?_
  simp only [Qe.j1,if_true]
  exact Evs.done (by simp only [Bool.false_eq_true,false_iff];exact fun h2=>h ⟨by have:=h2.1.1;omega,by have:=h2.1.2;omega⟩)
theorem implB_evs (a0 a1:Bool) (a2 a3 a4:Int) (l:List Rc) (hl:smallRs l):Evs (fun k=>Qe.f k a0 a1 a2 a3 a4 l) (fun b=>b=true↔VB a1 a2 a3 a4 l):=by
 have hj:=implB_j0 a0 a1 a2 a3 a4 l hl
 unfold Qe.f VB
 by_cases h:a2=255
 ·simp only [if_pos h]
  by_cases h3:a3=0
  ·simp only [if_pos h3]
   by_cases h4:a4=0
   ·simp only [if_pos h4]
    cases a1 with
    | true=>
     simp only [if_true]
     exact Evs.done (by simp)
    | false=>
     simp only [Bool.false_eq_true,if_false]
     refine hj.mono fun b hb=>?_
     rw [hb]
     exact ⟨fun h2=>⟨⟨h3,h4,trivial⟩,h2.1,(fun h5=>h5.elim),h2.2.2⟩,fun h2=>⟨h2.2.1,(fun h5=>by cases h5),h2.2.2.2⟩⟩
   ·simp only [if_neg h4]
    exact Evs.done (by simp only [Bool.false_eq_true,false_iff];exact fun h2=>h4 h2.1.2.1)
  ·simp only [if_neg h3]
   exact Evs.done (by simp only [Bool.false_eq_true,false_iff];exact fun h2=>h3 h2.1.1)
 ·simp only [if_neg h,idValid_eqB,Rh,bsome,decide_eq_true_eq]
  by_cases h2 : 0≤a2∧a2≤254
  ·simp only [if_pos h2]
   by_cases h3 : 0≤a3∧a3≤99
   ·simp only [if_pos h3]
    by_cases h4 : 0≤a4∧a4≤9999
    ·simp only [if_pos h4]
     refine hj.mono fun b hb=>?_
     rw [hb]
     exact ⟨fun h5=>⟨⟨h2,h3,h4⟩,h5⟩,fun h5=>h5.2⟩
    ·simp only [if_neg h4]
     exact Evs.done (by simp only [Bool.false_eq_true,false_iff];exact fun h5=>h4 h5.1.2.2)
   ·simp only [if_neg h3]
    exact Evs.done (by simp only [Bool.false_eq_true,false_iff];exact fun h5=>h3 h5.1.2.1)
  ·simp only [if_neg h2]
   exact Evs.done (by simp only [Bool.false_eq_true,false_iff];exact fun h5=>h2 h5.1.1)
theorem specB_j0_true (a0 a1:Bool) (a2 a3 a4:Int) (l:List Rc):Evs (fun k=>Qi.j0 k true a0 a1 a2 a3 a4 l) (fun b=>b=false):=by
 refine Evs.succ ?_
 simp only [Qi.j0,if_true]
 exact Evs.done rfl
theorem specB_evs (a0 a1:Bool) (a2 a3 a4:Int) (l:List Rc) (hl:smallRs l):Evs (fun k=>Qi.f k a0 a1 a2 a3 a4 l) (fun b=>b=true↔VB a1 a2 a3 a4 l):=by
 have hr:=specRecs_loop l hl l.length 0 (by omega) (by omega)
 have no:∀ {P:Prop},¬ P→∀ b:Bool,b=false→(b=true↔P):=fun hP b hb=>by rw [hb];simp only [Bool.false_eq_true,false_iff];exact hP
 unfold Qi.f
 unfold Qm.f
 refine Evs.bind hr ?_
 intro t ht
 by_cases h:t=true
 ·obtain ⟨hRF,hl1⟩:=ht.1 h
  simp only [if_pos h,spec_l6In_eq,bsome,decide_eq_true_eq]
  by_cases h2 : 0≤a2∧a2≤255
  ·simp only [if_pos h2]
   by_cases h3 : 0≤a3∧a3≤99
   ·simp only [if_pos h3]
    by_cases h4 : 0≤a4∧a4≤9999
    ·simp only [decide_eq_true h4,Bool.not_true]
     refine Evs.succ ?_
     simp only [Qi.j0,Bool.false_eq_true,if_false]
     unfold VB
     by_cases h5:a2=255
     ·simp only [if_pos h5]
      by_cases h6:a3=0
      ·simp only [if_pos h6]
       by_cases h7:a4=0
       ·simp only [if_pos h7]
        refine Evs.done ?_
        cases a1
        ·simp;exact ⟨⟨h6,h7⟩,hl1,hRF⟩
        ·simp
       ·simp only [if_neg h7]
        exact Evs.done (no (fun h8=>h7 h8.1.2.1) _ rfl)
      ·simp only [if_neg h6]
       exact Evs.done (no (fun h8=>h6 h8.1.1) _ rfl)
     ·simp only [if_neg h5]
      cases a1 with
      | true=>
       simp only [if_true]
       refine Evs.done ?_
       simp only [beq_iff_eq]
       exact ⟨fun h8=>⟨⟨by omega,h3,h4⟩,hl1,fun _=>by omega,hRF⟩,fun h8=>by have:=h8.2.2.1 trivial;omega⟩
      | false=>
       simp only [Bool.false_eq_true,if_false]
       refine Evs.done ?_
       simp only [true_iff]
       exact ⟨⟨by omega,h3,h4⟩,hl1,(fun h8=>h8.elim),hRF⟩
    ·simp only [decide_eq_false h4,Bool.not_false]
     refine (specB_j0_true a0 a1 a2 a3 a4 l).mono (no ?_)
     unfold VB
     split
     ·rintro ⟨⟨_,h8,_⟩,_⟩
      exact h4 (by omega)
     ·exact fun h8=>h4 h8.1.2.2
   ·simp only [if_neg h3]
    refine (specB_j0_true a0 a1 a2 a3 a4 l).mono (no ?_)
    unfold VB
    split
    ·rintro ⟨⟨h8,_,_⟩,_⟩
     exact h3 (by omega)
    ·exact fun h8=>h3 h8.1.2.1
  ·simp only [if_neg h2]
   refine (specB_j0_true a0 a1 a2 a3 a4 l).mono (no ?_)
   unfold VB
   split
   ·rename_i h8
    exact fun _=>h2 (by omega)
   ·exact fun h8=>h2 (by have:=h8.1.1;omega)
 ·simp only [if_neg h]
  refine (specB_j0_true a0 a1 a2 a3 a4 l).mono (no ?_)
  exact fun h8=>h (ht.2 ⟨h8.2.2.2,h8.2.1⟩)
open Classical in
noncomputable def vb (a1:Bool) (a2 a3 a4:Int) (l:List Rc):Bool:=decide (VB a1 a2 a3 a4 l)
theorem vb_iff (a1:Bool) (a2 a3 a4:Int) (l:List Rc):vb a1 a2 a3 a4 l=true↔VB a1 a2 a3 a4 l:=by unfold vb;simp
theorem implB (a0 a1:Bool) (a2 a3 a4:Int) (l:List Rc) (hl:smallRs l):Ev (fun k=>Qe.f k a0 a1 a2 a3 a4 l) (vb a1 a2 a3 a4 l):=by
 obtain ⟨b,hb,h⟩:=implB_evs a0 a1 a2 a3 a4 l hl
 rw [show vb a1 a2 a3 a4 l=b by rw [Bool.eq_iff_iff,vb_iff,h]]
 exact hb
theorem specB (a0 a1:Bool) (a2 a3 a4:Int) (l:List Rc) (hl:smallRs l):Ev (fun k=>Qi.f k a0 a1 a2 a3 a4 l) (vb a1 a2 a3 a4 l):=by
 obtain ⟨b,hb,h⟩:=specB_evs a0 a1 a2 a3 a4 l hl
 rw [show vb a1 a2 a3 a4 l=b by rw [Bool.eq_iff_iff,vb_iff,h]]
 exact hb
theorem bytes_of {l:List Int} (h:∀ x∈l,(Lit.int .u8 x).wf=true):Bytes l:=by
 intro x hx
 have:=h x hx
 simp [Lit.wf,IntKind.min,IntKind.max,IntKind.signed,IntKind.bits] at this
 omega
theorem open_ev (l:List Int) (h:Bytes l):∃ b,Ri.f l=some (b,0)∧Bytes b∧b.length≤2000:=by
 unfold Ri.f
 by_cases hc:(l.length:Int) > 2000
 ·rw [if_pos hc,if_pos (by omega)]
  exact ⟨_,rfl,fun x hx=>h x (List.mem_of_mem_take hx),by rw [length_take];omega⟩
 ·rw [if_neg hc]
  exact ⟨_,rfl,h,by omega⟩
end Go.Proofs.Ytkhjmhdgcmffaaa.UQ
