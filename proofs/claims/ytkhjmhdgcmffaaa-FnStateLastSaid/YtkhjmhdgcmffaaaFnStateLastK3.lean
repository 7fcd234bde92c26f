/- The law FnStateLast holds (part 4 of 7; merged by pack2.py). -/
import Derived.Shelf.Strings.Builder1
import Derived.LaidEqlPtr
import Derived.Lib.Builder
import Derived.Lib.SliceRun
import Derived.Test.YtkhjmhdgcmffaaaFnStateLastK2
open List (setIfInBounds_toArray set_cons_zero set_cons_succ map_toArray map_cons map_nil length_drop length_take)
namespace Go.Proofs.Ytkhjmhdgcmffaaa.U
open Go.RowKit Go.Proofs.YtkhjmhdgcmffaaaW.PrintWords Go.Proofs.YtkhjmhdgcmffaaaW.PrintLast Go.Proofs.YtkhjmhdgcmffaaaW.PrintMore
attribute [local go_sem] max2_int max_two
set_option linter.unusedVariables false
set_option linter.unusedSimpArgs false
mutual
def Qe.j0:Nat→Bool→Bool→Int→Int→Int→List (S30)→Option (Bool)
 | 0,_,_,_,_,_,_=>none
 | k+1,x297000,x297001,x297002,x297003,x297004,x297005=>(Qs.f (x297005.length:Int) 1 6).bind fun t300=>(if t300=true then (if x297001=true then (Qe.j1 k ((x297005.length:Int) != 1) x297000 x297001 x297002 x297003 x297004 x297005) else (Qe.j1 k false x297000 x297001 x297002 x297003 x297004 x297005)) else (Qe.j1 k true x297000 x297001 x297002 x297003 x297004 x297005))
def Qe.j1:Nat→Bool→Bool→Bool→Int→Int→Int→List (S30)→Option (Bool)
 | 0,_,_,_,_,_,_,_=>none
 | k+1,x50,x297000,x297001,x297002,x297003,x297004,x297005=>if x50=true then (some false) else (Qe.l0 k x297005 (x297005.length:Int) 0 x297000 x297001 x297002 x297003 x297004 x297005)
def Qe.l0:Nat→List (S30)→Int→Int→Bool→Bool→Int→Int→Int→List (S30)→Option (Bool)
 | 0,_,_,_,_,_,_,_,_,_=>none
 | k+1,x52,x53,x54,x297000,x297001,x297002,x297003,x297004,x297005=>if x54 < x53 then (if 0≤x54 then (if x54 < (x52.length:Int) then ((Q3.f k ((Qb x52 x54).f0) ((Qb x52 x54).f1) ((Qb x52 x54).f2) ((Qb x52 x54).f3) ((Qb x52 x54).f4) ((Qb x52 x54).f5)).bind fun t303=>(if t303=true then (if x54 > 0 then (if 0≤(wrap64 (x54 - 1)) then (if (wrap64 (x54 - 1)) < (x297005.length:Int) then (if ((Qb x297005 (wrap64 (x54 - 1))).f0) ≥ ((Qb x52 x54).f0) then (some false) else (Qe.l0 k x52 x53 (wrap64 (x54+1)) x297000 x297001 x297002 x297003 x297004 x297005)) else (none)) else (none)) else (Qe.l0 k x52 x53 (wrap64 (x54+1)) x297000 x297001 x297002 x297003 x297004 x297005)) else (some false))) else (none)) else (none)) else (some true)
end
def Qe.f (k:Nat) (a0_0:Bool) (a0_1:Bool) (a0_2:Int) (a0_3:Int) (a0_4:Int) (l0_5:List (S30)):Option (Bool):=if a0_2=255 then (if a0_3=0 then (if a0_4=0 then (if a0_1=true then (some false) else (Qe.j0 k a0_0 a0_1 a0_2 a0_3 a0_4 l0_5)) else (some false)) else (some false)) else ((Ra.f a0_2).bind fun t297=>(if t297=true then ((Qs.f a0_3 0 99).bind fun t298=>(if t298=true then ((Qs.f a0_4 0 9999).bind fun t299=>(if t299=true then (Qe.j0 k a0_0 a0_1 a0_2 a0_3 a0_4 l0_5) else (some false))) else (some false))) else (some false)))
def Qe.T11:Bool×List (List Nat×List Nat):=(true,[([],[]),([0],[0]),([1],[1]),([2,1],[2]),([3],[3]),([4,3],[3,4]),([5,3,3],[3,5]),([6],[6]),([7,6],[6,7]),([6],[6]),([9,6],[6,9]),([8,10,6],[6,8,10]),([11,6],[6,11]),([12,6],[6,12]),([6],[6]),([14,6],[6,14]),([13,15,6],[6,13,15]),([6,16,3],[3,6,16]),([3,17],[3,17])])
def Qe.B11:List Nat:=[0,1,3,7,15,31,63,127,255,127,639,2047,4095,8191,127,16511,65535,131071,262143]
theorem Qe.tab11:rtab .any (opsOf Try.f56 11)=Qe.T11:=by kernel_rfl
theorem Qe.bits11:waitsOk Qe.T11.2 Qe.B11=true:=by kernel_rfl
set_option maxHeartbeats 8000000 in
set_option maxRecDepth 100000 in
theorem Qe.calls (k:Nat) (a0_0:Bool) (a0_1:Bool) (a0_2:Int) (a0_3:Int) (a0_4:Int) (A0_5:Option Addr) (c0_5:Nat) (l0_5:List (S30)) (r:Bool) (w:World) (hr0_5:Kd.C k30 w A0_5 l0_5.length l0_5) (hc0_5:l0_5.length≤c0_5) (h:Qe.f k a0_0 a0_1 a0_2 a0_3 a0_4 l0_5=some r) :
  Calls Try.prog 56 #[.agg #[.bool a0_0,.bool a0_1,.int .i64 a0_2,.int .i64 a0_3,.int .i64 a0_4,.slice A0_5 l0_5.length c0_5]] w fun e w'=>e = .returned (.bool r)∧Below w.heap.size w w':=by
 have hu34:=Try.underlying34;have hu30:=Try.underlying30;have HR0_5:=zzm hr0_5;have HC0_5:=zzm hc0_5;clear hr0_5 hc0_5;have HB:=zzm (Below.refl w.heap.size w);have H:(if a0_2=255 then (if a0_3=0 then (if a0_4=0 then (if a0_1=true then (some false) else (Qe.j0 k a0_0 a0_1 a0_2 a0_3 a0_4 l0_5)) else (some false)) else (some false)) else ((Ra.f a0_2).bind fun t297=>(if t297=true then ((Qs.f a0_3 0 99).bind fun t298=>(if t298=true then ((Qs.f a0_4 0 9999).bind fun t299=>(if t299=true then (Qe.j0 k a0_0 a0_1 a0_2 a0_3 a0_4 l0_5) else (some false))) else (some false))) else (some false))))=some r:=h;clear h;have HC2:=zzm H;clear H;go_enter Try.func56,Try.ntmps56;go_upto_if 7 with (first|((with_reducible refine gate_dst (N:=1) rfl ?_);(try (refine gate_guard (by rfl) ?_;dsimp only));refine box_event ?hg (N:=1) ?hd (cs:=#[.bool a0_0,.bool a0_1,.int .i64 a0_2,.int .i64 a0_3,.int .i64 a0_4,.slice A0_5 l0_5.length c0_5]) (t:=34) ?hr ?_;(case hd=>rfl);(case hg=>rfl);(case hr=>first|(go_simp;done)|(go_simp;rfl));intro gb296 hg w3 hbox hb;have n0_:=zzm (zzp zzh1 hb);have n1_:=zzm (hbox);have n2_:=zzm ((by rw [hg];exact (zzo zzh1):w.heap.size≤gb296));have n3_:=zzm ((by rw [hg];exact (zzo zzh1):w.heap.size≤gb296));clear HB;have HB:=n0_;have BK296:=n1_;have GW296:=n2_;have GE296:=n3_;clear n0_ n1_ n2_ n3_ hb hbox hg;obtain ⟨hcz4_0,hcz4_1,hcz4_2,hcz4_3,hcz4_4,hcz4_5,hfz4_0,hfz4_1,hfz4_2,hfz4_3,hfz4_4,hfz4_5⟩:=zzc6 BK296.out))
 (try simp only [Act.put,zzq,zzr,zzs]);go_cut [] (fun wc=>∃ (kq:Nat),Aside0 (Qe.j0 kq a0_0 a0_1 a0_2 a0_3 a0_4 l0_5=some r)∧Aside0 (kq≤k)∧Aside0 (wc.heap[gb296]? = some (.cells #[.bool a0_0,.bool a0_1,.int .i64 a0_2,.int .i64 a0_3,.int .i64 a0_4,(.slice A0_5 l0_5.length c0_5)] 34 (0,0)))∧Aside0 (Below w.heap.size w wc))
 case first=>
  have H:=HC2.out;clear HC2;by_cases c5:a0_2=255
  ·
   rw [if_pos c5] at H;have c5b0:(a0_2==255)=true:=beq_iff_eq.mpr c5;have c5b1:(a0_2 != 255)=false:=bne_eq_false_iff_eq.mpr c5;clear c5
   (first|rw [c5b0]|(simp only [i64_w,i32_w];rw [c5b0])|skip);by_cases c6:a0_3=0
   ·
    rw [if_pos c6] at H;have c6b0:(a0_3==0)=true:=beq_iff_eq.mpr c6;have c6b1:(a0_3 != 0)=false:=bne_eq_false_iff_eq.mpr c6;clear c6;by_cases c7:a0_4=0
    ·
     rw [if_pos c7] at H;have c7b0:(a0_4==0)=true:=beq_iff_eq.mpr c7;have c7b1:(a0_4 != 0)=false:=bne_eq_false_iff_eq.mpr c7;clear c7;by_cases c8:a0_1=true
     ·
      subst c8;have H1:(some false)=some r:=by rw [if_pos rfl] at H;exact H
      clear H;have H:=H1;clear H1;obtain rfl:=Option.some.inj H;obtain ⟨hcz9_0,hcz9_1,hcz9_2,hcz9_3,hcz9_4,hcz9_5,hfz9_0,hfz9_1,hfz9_2,hfz9_3,hfz9_4,hfz9_5⟩:=zzc6 BK296.out;go_wp2;go_ret;exact ⟨by first|rfl|(simp [errW_none,errW_some] <;> rfl)|(simp [*,errW_none,errW_some] <;> rfl),by repeat (first|(with_reducible first|exact HB.out|apply zza|apply zzb|apply zzc|refine zzd ?_ GE296.out)|exact HB.out)⟩
     ·
      replace c8:=Bool.eq_false_iff.mpr c8;subst c8;have H1:(Qe.j0 k a0_0 false a0_2 a0_3 a0_4 l0_5)=some r:=by rw [if_neg (show ¬ (false=true) by decide)] at H;exact H
      clear H;have H:=H1;clear H1;have H':=zzm H;clear H;obtain ⟨hcz10_0,hcz10_1,hcz10_2,hcz10_3,hcz10_4,hcz10_5,hfz10_0,hfz10_1,hfz10_2,hfz10_3,hfz10_4,hfz10_5⟩:=zzc6 BK296.out;go_wp2;go_meet
      case rel=>exact ⟨_,H',⟨by first|omega|exact Nat.le_refl _⟩,⟨by (with_reducible repeat (first|apply zzf|apply zzg|apply zze));exact BK296.out⟩,⟨by repeat (first|(with_reducible first|exact HB.out|apply zza|apply zzb|apply zzc|refine zzd ?_ GE296.out)|exact HB.out)⟩⟩
    ·
     rw [if_neg c7] at H;have c7b0:(a0_4==0)=false:=beq_eq_false_iff_ne.mpr c7;have c7b1:(a0_4 != 0)=true:=bne_iff_ne.mpr c7;obtain rfl:=Option.some.inj H;obtain ⟨hcz11_0,hcz11_1,hcz11_2,hcz11_3,hcz11_4,hcz11_5,hfz11_0,hfz11_1,hfz11_2,hfz11_3,hfz11_4,hfz11_5⟩:=zzc6 BK296.out;go_wp2;go_ret;exact ⟨by first|rfl|(simp [errW_none,errW_some] <;> rfl)|(simp [*,errW_none,errW_some] <;> rfl),by repeat (first|(with_reducible first|exact HB.out|apply zza|apply zzb|apply zzc|refine zzd ?_ GE296.out)|exact HB.out)⟩
   ·
    rw [if_neg c6] at H;have c6b0:(a0_3==0)=false:=beq_eq_false_iff_ne.mpr c6;have c6b1:(a0_3 != 0)=true:=bne_iff_ne.mpr c6;obtain rfl:=Option.some.inj H;obtain ⟨hcz12_0,hcz12_1,hcz12_2,hcz12_3,hcz12_4,hcz12_5,hfz12_0,hfz12_1,hfz12_2,hfz12_3,hfz12_4,hfz12_5⟩:=zzc6 BK296.out;go_wp2;go_ret;exact ⟨by first|rfl|(simp [errW_none,errW_some] <;> rfl)|(simp [*,errW_none,errW_some] <;> rfl),by repeat (first|(with_reducible first|exact HB.out|apply zza|apply zzb|apply zzc|refine zzd ?_ GE296.out)|exact HB.out)⟩
  ·
   rw [if_neg c5] at H;have c5b0:(a0_2==255)=false:=beq_eq_false_iff_ne.mpr c5;have c5b1:(a0_2 != 255)=true:=bne_iff_ne.mpr c5
   (first|rw [c5b0]|(simp only [i64_w,i32_w];rw [c5b0])|skip);replace H:=Option.bind_eq_some_iff.mp H;obtain ⟨t297,A130,H⟩:=H;replace H:(if t297=true then ((Qs.f a0_3 0 99).bind fun t298=>(if t298=true then ((Qs.f a0_4 0 9999).bind fun t299=>(if t299=true then (Qe.j0 k a0_0 a0_1 a0_2 a0_3 a0_4 l0_5) else (some false))) else (some false))) else (some false))=some r:=H;have A13:=zzm A130;clear A130;by_cases c14:t297=true
   ·
    subst c14;have H1:((Qs.f a0_3 0 99).bind fun t298=>(if t298=true then ((Qs.f a0_4 0 9999).bind fun t299=>(if t299=true then (Qe.j0 k a0_0 a0_1 a0_2 a0_3 a0_4 l0_5) else (some false))) else (some false)))=some r:=by rw [if_pos rfl] at H;exact H
    clear H;have H:=H1;clear H1;replace H:=Option.bind_eq_some_iff.mp H;obtain ⟨t298,A150,H⟩:=H;replace H:(if t298=true then ((Qs.f a0_4 0 9999).bind fun t299=>(if t299=true then (Qe.j0 k a0_0 a0_1 a0_2 a0_3 a0_4 l0_5) else (some false))) else (some false))=some r:=H;have A15:=zzm A150;clear A150;by_cases c16:t298=true
    ·
     subst c16;have H1:((Qs.f a0_4 0 9999).bind fun t299=>(if t299=true then (Qe.j0 k a0_0 a0_1 a0_2 a0_3 a0_4 l0_5) else (some false)))=some r:=by rw [if_pos rfl] at H;exact H
     clear H;have H:=H1;clear H1;replace H:=Option.bind_eq_some_iff.mp H;obtain ⟨t299,A170,H⟩:=H;replace H:(if t299=true then (Qe.j0 k a0_0 a0_1 a0_2 a0_3 a0_4 l0_5) else (some false))=some r:=H;have A17:=zzm A170;clear A170;by_cases c18:t299=true
     ·
      subst c18;have H1:(Qe.j0 k a0_0 a0_1 a0_2 a0_3 a0_4 l0_5)=some r:=by rw [if_pos rfl] at H;exact H
      clear H;have H:=H1;clear H1;have H':=zzm H;clear H;obtain ⟨hcz19_0,hcz19_1,hcz19_2,hcz19_3,hcz19_4,hcz19_5,hfz19_0,hfz19_1,hfz19_2,hfz19_3,hfz19_4,hfz19_5⟩:=zzc6 BK296.out;go_wp2_with (first|((with_reducible refine gate_callee (f:=77) rfl ?_);refine goesL_ (some 22) rfl rfl Try.func77 (by kernel_rfl) rfl #[.int .i64 a0_2] rfl zzM2 ?_;(with_reducible refine (Ra.calls a0_2 true _ A13.out).mono ?_);rintro e w' ⟨rfl,⟨nd,rfl⟩⟩;refine ⟨_,rfl,?_⟩)|(go_at_call 78;(with_reducible refine (Qs.calls a0_3 0 99 true _ A15.out).mono ?_);rintro e w' ⟨rfl,⟨nd,rfl⟩⟩)|(go_at_call 78;(with_reducible refine (Qs.calls a0_4 0 9999 true _ A17.out).mono ?_);rintro e w' ⟨rfl,⟨nd,rfl⟩⟩));go_meet
      case rel=>exact ⟨_,H',⟨by first|omega|exact Nat.le_refl _⟩,⟨by (with_reducible repeat (first|apply zzf|apply zzg|apply zze));exact BK296.out⟩,⟨by repeat (first|(with_reducible first|exact HB.out|apply zza|apply zzb|apply zzc|refine zzd ?_ GE296.out)|exact HB.out)⟩⟩
     ·
      replace c18:=Bool.eq_false_iff.mpr c18;subst c18;have H1:(some false)=some r:=by rw [if_neg (show ¬ (false=true) by decide)] at H;exact H
      clear H;have H:=H1;clear H1;obtain rfl:=Option.some.inj H;obtain ⟨hcz20_0,hcz20_1,hcz20_2,hcz20_3,hcz20_4,hcz20_5,hfz20_0,hfz20_1,hfz20_2,hfz20_3,hfz20_4,hfz20_5⟩:=zzc6 BK296.out;go_wp2_with (first|((with_reducible refine gate_callee (f:=77) rfl ?_);refine goesL_ (some 22) rfl rfl Try.func77 (by kernel_rfl) rfl #[.int .i64 a0_2] rfl zzM2 ?_;(with_reducible refine (Ra.calls a0_2 true _ A13.out).mono ?_);rintro e w' ⟨rfl,⟨nd,rfl⟩⟩;refine ⟨_,rfl,?_⟩)|(go_at_call 78;(with_reducible refine (Qs.calls a0_3 0 99 true _ A15.out).mono ?_);rintro e w' ⟨rfl,⟨nd,rfl⟩⟩)|(go_at_call 78;(with_reducible refine (Qs.calls a0_4 0 9999 false _ A17.out).mono ?_);rintro e w' ⟨rfl,⟨nd,rfl⟩⟩));go_ret;exact ⟨by first|rfl|(simp [errW_none,errW_some] <;> rfl)|(simp [*,errW_none,errW_some] <;> rfl),by repeat (first|(with_reducible first|exact HB.out|apply zza|apply zzb|apply zzc|refine zzd ?_ GE296.out)|exact HB.out)⟩
    ·
     replace c16:=Bool.eq_false_iff.mpr c16;subst c16;have H1:(some false)=some r:=by rw [if_neg (show ¬ (false=true) by decide)] at H;exact H
     clear H;have H:=H1;clear H1;obtain rfl:=Option.some.inj H;obtain ⟨hcz21_0,hcz21_1,hcz21_2,hcz21_3,hcz21_4,hcz21_5,hfz21_0,hfz21_1,hfz21_2,hfz21_3,hfz21_4,hfz21_5⟩:=zzc6 BK296.out;go_wp2_with (first|((with_reducible refine gate_callee (f:=77) rfl ?_);refine goesL_ (some 22) rfl rfl Try.func77 (by kernel_rfl) rfl #[.int .i64 a0_2] rfl zzM2 ?_;(with_reducible refine (Ra.calls a0_2 true _ A13.out).mono ?_);rintro e w' ⟨rfl,⟨nd,rfl⟩⟩;refine ⟨_,rfl,?_⟩)|(go_at_call 78;(with_reducible refine (Qs.calls a0_3 0 99 false _ A15.out).mono ?_);rintro e w' ⟨rfl,⟨nd,rfl⟩⟩));go_ret;exact ⟨by first|rfl|(simp [errW_none,errW_some] <;> rfl)|(simp [*,errW_none,errW_some] <;> rfl),by repeat (first|(with_reducible first|exact HB.out|apply zza|apply zzb|apply zzc|refine zzd ?_ GE296.out)|exact HB.out)⟩
   ·
    replace c14:=Bool.eq_false_iff.mpr c14;subst c14;have H1:(some false)=some r:=by rw [if_neg (show ¬ (false=true) by decide)] at H;exact H
    clear H;have H:=H1;clear H1;obtain rfl:=Option.some.inj H;obtain ⟨hcz22_0,hcz22_1,hcz22_2,hcz22_3,hcz22_4,hcz22_5,hfz22_0,hfz22_1,hfz22_2,hfz22_3,hfz22_4,hfz22_5⟩:=zzc6 BK296.out;go_wp2_with (first|((with_reducible refine gate_callee (f:=77) rfl ?_);refine goesL_ (some 22) rfl rfl Try.func77 (by kernel_rfl) rfl #[.int .i64 a0_2] rfl zzM2 ?_;(with_reducible refine (Ra.calls a0_2 false _ A13.out).mono ?_);rintro e w' ⟨rfl,⟨nd,rfl⟩⟩;refine ⟨_,rfl,?_⟩));go_ret;exact ⟨by first|rfl|(simp [errW_none,errW_some] <;> rfl)|(simp [*,errW_none,errW_some] <;> rfl),by repeat (first|(with_reducible first|exact HB.out|apply zza|apply zzb|apply zzc|refine zzd ?_ GE296.out)|exact HB.out)⟩
 case rest=>
  clear HC2;try clear c1
  try clear p2
  try clear c5
  try clear c5b0
  try clear c5b1
  try clear c6
  try clear c6b0
  try clear c6b1
  try clear c7
  try clear c7b0
  try clear c7b1
  try clear c8
  try clear c14
  try clear c16
  try clear c18
  try clear hcz10_0
  try clear hcz10_1
  try clear hcz10_2
  try clear hcz10_3
  try clear hcz10_4
  try clear hcz10_5
  try clear hcz11_0
  try clear hcz11_1
  try clear hcz11_2
  try clear hcz11_3
  try clear hcz11_4
  try clear hcz11_5
  try clear hcz12_0
  try clear hcz12_1
  try clear hcz12_2
  try clear hcz12_3
  try clear hcz12_4
  try clear hcz12_5
  try clear hcz19_0
  try clear hcz19_1
  try clear hcz19_2
  try clear hcz19_3
  try clear hcz19_4
  try clear hcz19_5
  try clear hcz20_0
  try clear hcz20_1
  try clear hcz20_2
  try clear hcz20_3
  try clear hcz20_4
  try clear hcz20_5
  try clear hcz21_0
  try clear hcz21_1
  try clear hcz21_2
  try clear hcz21_3
  try clear hcz21_4
  try clear hcz21_5
  try clear hcz22_0
  try clear hcz22_1
  try clear hcz22_2
  try clear hcz22_3
  try clear hcz22_4
  try clear hcz22_5
  try clear hcz4_0
  try clear hcz4_1
  try clear hcz4_2
  try clear hcz4_3
  try clear hcz4_4
  try clear hcz4_5
  try clear hcz9_0
  try clear hcz9_1
  try clear hcz9_2
  try clear hcz9_3
  try clear hcz9_4
  try clear hcz9_5
  try clear hfz10_0
  try clear hfz10_1
  try clear hfz10_2
  try clear hfz10_3
  try clear hfz10_4
  try clear hfz10_5
  try clear hfz11_0
  try clear hfz11_1
  try clear hfz11_2
  try clear hfz11_3
  try clear hfz11_4
  try clear hfz11_5
  try clear hfz12_0
  try clear hfz12_1
  try clear hfz12_2
  try clear hfz12_3
  try clear hfz12_4
  try clear hfz12_5
  try clear hfz19_0
  try clear hfz19_1
  try clear hfz19_2
  try clear hfz19_3
  try clear hfz19_4
  try clear hfz19_5
  try clear hfz20_0
  try clear hfz20_1
  try clear hfz20_2
  try clear hfz20_3
  try clear hfz20_4
  try clear hfz20_5
  try clear hfz21_0
  try clear hfz21_1
  try clear hfz21_2
  try clear hfz21_3
  try clear hfz21_4
  try clear hfz21_5
  try clear hfz22_0
  try clear hfz22_1
  try clear hfz22_2
  try clear hfz22_3
  try clear hfz22_4
  try clear hfz22_5
  try clear hfz4_0
  try clear hfz4_1
  try clear hfz4_2
  try clear hfz4_3
  try clear hfz4_4
  try clear hfz4_5
  try clear hfz9_0
  try clear hfz9_1
  try clear hfz9_2
  try clear hfz9_3
  try clear hfz9_4
  try clear hfz9_5
  obtain ⟨kq,HA,HJ1,BK296,HB⟩:=hcut;cases kq with
  | zero=>exact absurd HA.out (by simp [Qe.j0])
  | succ kj1=>
   have H:=HA.out;clear HA;simp only [Qe.j0] at H;have HC23:=zzm H;clear H;go_upto_region 6 with (fail);go_cut [50] (fun v50 wc=>∃ (kq:Nat) (x50_22:Bool),v50 = .bool x50_22∧Aside0 (Qe.j1 kq x50_22 a0_0 a0_1 a0_2 a0_3 a0_4 l0_5=some r)∧Aside0 (kq≤kj1)∧Aside0 (wc.heap[gb296]? = some (.cells #[.bool a0_0,.bool a0_1,.int .i64 a0_2,.int .i64 a0_3,.int .i64 a0_4,(.slice A0_5 l0_5.length c0_5)] 34 (0,0)))∧Aside0 (Below w.heap.size w wc))
   case first=>
    have H:=HC23.out;clear HC23;replace H:=Option.bind_eq_some_iff.mp H;obtain ⟨t300,A240,H⟩:=H;replace H:(if t300=true then (if a0_1=true then (Qe.j1 kj1 ((l0_5.length:Int) != 1) a0_0 a0_1 a0_2 a0_3 a0_4 l0_5) else (Qe.j1 kj1 false a0_0 a0_1 a0_2 a0_3 a0_4 l0_5)) else (Qe.j1 kj1 true a0_0 a0_1 a0_2 a0_3 a0_4 l0_5))=some r:=H;have A24:=zzm A240;clear A240;by_cases c25:t300=true
    ·
     subst c25;have H1:(if a0_1=true then (Qe.j1 kj1 ((l0_5.length:Int) != 1) a0_0 a0_1 a0_2 a0_3 a0_4 l0_5) else (Qe.j1 kj1 false a0_0 a0_1 a0_2 a0_3 a0_4 l0_5))=some r:=by rw [if_pos rfl] at H;exact H
     clear H;have H:=H1;clear H1;by_cases c26:a0_1=true
     ·
      subst c26;have H1:(Qe.j1 kj1 ((l0_5.length:Int) != 1) a0_0 true a0_2 a0_3 a0_4 l0_5)=some r:=by rw [if_pos rfl] at H;exact H
      clear H;have H:=H1;clear H1;have H':=zzm H;clear H;obtain ⟨hcz27_0,hcz27_1,hcz27_2,hcz27_3,hcz27_4,hcz27_5,hfz27_0,hfz27_1,hfz27_2,hfz27_3,hfz27_4,hfz27_5⟩:=zzc6 BK296.out;go_wp2_with (first|((with_reducible refine gate_callee (f:=78) rfl ?_);refine goesL_ (some 39) rfl rfl Try.func78 (by kernel_rfl) rfl #[.int .i64 (l0_5.length:Int),.int .i64 1,.int .i64 6] rfl zzM2 ?_;(with_reducible refine (Qs.calls (l0_5.length:Int) 1 6 true _ A24.out).mono ?_);rintro e w' ⟨rfl,⟨nd,rfl⟩⟩;refine ⟨_,rfl,?_⟩));go_meet
      case rel=>exact ⟨_,(((l0_5.length:Int) != 1)),(by first|rfl|(simp;done)|(simp [*];done)),H',⟨by have:=HJ1.out;first|omega|exact Nat.le_refl _⟩,⟨by (with_reducible repeat (first|apply zzf|apply zzg|apply zze));exact BK296.out⟩,⟨by repeat (first|(with_reducible first|exact HB.out|apply zza|apply zzb|apply zzc|refine zzd ?_ GE296.out)|exact HB.out)⟩⟩
     ·
      replace c26:=Bool.eq_false_iff.mpr c26;subst c26;have H1:(Qe.j1 kj1 false a0_0 false a0_2 a0_3 a0_4 l0_5)=some r:=by rw [if_neg (show ¬ (false=true) by decide)] at H;exact H
      clear H;have H:=H1;clear H1;have H':=zzm H;clear H;obtain ⟨hcz28_0,hcz28_1,hcz28_2,hcz28_3,hcz28_4,hcz28_5,hfz28_0,hfz28_1,hfz28_2,hfz28_3,hfz28_4,hfz28_5⟩:=zzc6 BK296.out;go_wp2_with (first|((with_reducible refine gate_callee (f:=78) rfl ?_);refine goesL_ (some 39) rfl rfl Try.func78 (by kernel_rfl) rfl #[.int .i64 (l0_5.length:Int),.int .i64 1,.int .i64 6] rfl zzM2 ?_;(with_reducible refine (Qs.calls (l0_5.length:Int) 1 6 true _ A24.out).mono ?_);rintro e w' ⟨rfl,⟨nd,rfl⟩⟩;refine ⟨_,rfl,?_⟩));go_meet
      case rel=>exact ⟨_,(false),(by first|rfl|(simp;done)|(simp [*];done)),H',⟨by have:=HJ1.out;first|omega|exact Nat.le_refl _⟩,⟨by (with_reducible repeat (first|apply zzf|apply zzg|apply zze));exact BK296.out⟩,⟨by repeat (first|(with_reducible first|exact HB.out|apply zza|apply zzb|apply zzc|refine zzd ?_ GE296.out)|exact HB.out)⟩⟩
    ·
     replace c25:=Bool.eq_false_iff.mpr c25;subst c25;have H1:(Qe.j1 kj1 true a0_0 a0_1 a0_2 a0_3 a0_4 l0_5)=some r:=by rw [if_neg (show ¬ (false=true) by decide)] at H;exact H
     clear H;have H:=H1;clear H1;have H':=zzm H;clear H;obtain ⟨hcz29_0,hcz29_1,hcz29_2,hcz29_3,hcz29_4,hcz29_5,hfz29_0,hfz29_1,hfz29_2,hfz29_3,hfz29_4,hfz29_5⟩:=zzc6 BK296.out;go_wp2_with (first|((with_reducible refine gate_callee (f:=78) rfl ?_);refine goesL_ (some 39) rfl rfl Try.func78 (by kernel_rfl) rfl #[.int .i64 (l0_5.length:Int),.int .i64 1,.int .i64 6] rfl zzM2 ?_;(with_reducible refine (Qs.calls (l0_5.length:Int) 1 6 false _ A24.out).mono ?_);rintro e w' ⟨rfl,⟨nd,rfl⟩⟩;refine ⟨_,rfl,?_⟩));go_meet
     case rel=>exact ⟨_,(true),(by first|rfl|(simp;done)|(simp [*];done)),H',⟨by have:=HJ1.out;first|omega|exact Nat.le_refl _⟩,⟨by (with_reducible repeat (first|apply zzf|apply zzg|apply zze));exact BK296.out⟩,⟨by repeat (first|(with_reducible first|exact HB.out|apply zza|apply zzb|apply zzc|refine zzd ?_ GE296.out)|exact HB.out)⟩⟩
   case rest=>
    clear HC23;try clear c1
    try clear c2
    try clear p2
    try clear c5
    try clear c5b0
    try clear c5b1
    try clear c6
    try clear c6b0
    try clear c6b1
    try clear c7
    try clear c7b0
    try clear c7b1
    try clear c8
    try clear c14
    try clear c16
    try clear c18
    try clear c25
    try clear c26
    try clear hcz10_0
    try clear hcz10_1
    try clear hcz10_2
    try clear hcz10_3
    try clear hcz10_4
    try clear hcz10_5
    try clear hcz11_0
    try clear hcz11_1
    try clear hcz11_2
    try clear hcz11_3
    try clear hcz11_4
    try clear hcz11_5
    try clear hcz12_0
    try clear hcz12_1
    try clear hcz12_2
    try clear hcz12_3
    try clear hcz12_4
    try clear hcz12_5
    try clear hcz19_0
    try clear hcz19_1
    try clear hcz19_2
    try clear hcz19_3
    try clear hcz19_4
    try clear hcz19_5
    try clear hcz20_0
    try clear hcz20_1
    try clear hcz20_2
    try clear hcz20_3
    try clear hcz20_4
    try clear hcz20_5
    try clear hcz21_0
    try clear hcz21_1
    try clear hcz21_2
    try clear hcz21_3
    try clear hcz21_4
    try clear hcz21_5
    try clear hcz22_0
    try clear hcz22_1
    try clear hcz22_2
    try clear hcz22_3
    try clear hcz22_4
    try clear hcz22_5
    try clear hcz27_0
    try clear hcz27_1
    try clear hcz27_2
    try clear hcz27_3
    try clear hcz27_4
    try clear hcz27_5
    try clear hcz28_0
    try clear hcz28_1
    try clear hcz28_2
    try clear hcz28_3
    try clear hcz28_4
    try clear hcz28_5
    try clear hcz29_0
    try clear hcz29_1
    try clear hcz29_2
    try clear hcz29_3
    try clear hcz29_4
    try clear hcz29_5
    try clear hcz4_0
    try clear hcz4_1
    try clear hcz4_2
    try clear hcz4_3
    try clear hcz4_4
    try clear hcz4_5
    try clear hcz9_0
    try clear hcz9_1
    try clear hcz9_2
    try clear hcz9_3
    try clear hcz9_4
    try clear hcz9_5
    try clear hfz10_0
    try clear hfz10_1
    try clear hfz10_2
    try clear hfz10_3
    try clear hfz10_4
    try clear hfz10_5
    try clear hfz11_0
    try clear hfz11_1
    try clear hfz11_2
    try clear hfz11_3
    try clear hfz11_4
    try clear hfz11_5
    try clear hfz12_0
    try clear hfz12_1
    try clear hfz12_2
    try clear hfz12_3
    try clear hfz12_4
    try clear hfz12_5
    try clear hfz19_0
    try clear hfz19_1
    try clear hfz19_2
    try clear hfz19_3
    try clear hfz19_4
    try clear hfz19_5
    try clear hfz20_0
    try clear hfz20_1
    try clear hfz20_2
    try clear hfz20_3
    try clear hfz20_4
    try clear hfz20_5
    try clear hfz21_0
    try clear hfz21_1
    try clear hfz21_2
    try clear hfz21_3
    try clear hfz21_4
    try clear hfz21_5
    try clear hfz22_0
    try clear hfz22_1
    try clear hfz22_2
    try clear hfz22_3
    try clear hfz22_4
    try clear hfz22_5
    try clear hfz27_0
    try clear hfz27_1
    try clear hfz27_2
    try clear hfz27_3
    try clear hfz27_4
    try clear hfz27_5
    try clear hfz28_0
    try clear hfz28_1
    try clear hfz28_2
    try clear hfz28_3
    try clear hfz28_4
    try clear hfz28_5
    try clear hfz29_0
    try clear hfz29_1
    try clear hfz29_2
    try clear hfz29_3
    try clear hfz29_4
    try clear hfz29_5
    try clear hfz4_0
    try clear hfz4_1
    try clear hfz4_2
    try clear hfz4_3
    try clear hfz4_4
    try clear hfz4_5
    try clear hfz9_0
    try clear hfz9_1
    try clear hfz9_2
    try clear hfz9_3
    try clear hfz9_4
    try clear hfz9_5
    try clear p2
    obtain ⟨kq,x50_22,rfl,HA,HJ22,BK296,HB⟩:=hcut;cases kq with
    | zero=>exact absurd HA.out (by simp [Qe.j1])
    | succ kj22=>
     have H:=HA.out;clear HA;simp only [Qe.j1] at H;by_cases c30:x50_22=true
     ·
      subst c30;have H1:(some false)=some r:=by rw [if_pos rfl] at H;exact H
      clear H;have H:=H1;clear H1;obtain rfl:=Option.some.inj H;go_wp2;go_ret;exact ⟨by first|rfl|(simp [errW_none,errW_some] <;> rfl)|(simp [*,errW_none,errW_some] <;> rfl),by repeat (first|(with_reducible first|exact HB.out|apply zza|apply zzb|apply zzc|refine zzd ?_ GE296.out)|exact HB.out)⟩
     ·
      replace c30:=Bool.eq_false_iff.mpr c30;subst c30;have H1:(Qe.l0 kj22 l0_5 (l0_5.length:Int) 0 a0_0 a0_1 a0_2 a0_3 a0_4 l0_5)=some r:=by rw [if_neg (show ¬ (false=true) by decide)] at H;exact H
      clear H;have H:=H1;clear H1;have H':=zzm H;clear H;obtain ⟨hcz31_0,hcz31_1,hcz31_2,hcz31_3,hcz31_4,hcz31_5,hfz31_0,hfz31_1,hfz31_2,hfz31_3,hfz31_4,hfz31_5⟩:=zzc6 BK296.out;go_wp2;go_loopg [54] kj22 (fun kq v54 w'=>∃ (x54_3:Int),v54 = .int .i64 x54_3∧Aside0 (Qe.l0 kq l0_5 (l0_5.length:Int) x54_3 a0_0 a0_1 a0_2 a0_3 a0_4 l0_5=some r)∧Aside0 (kq≤kj22)∧Aside0 (w'.heap[gb296]? = some (.cells #[.bool a0_0,.bool a0_1,.int .i64 a0_2,.int .i64 a0_3,.int .i64 a0_4,(.slice A0_5 l0_5.length c0_5)] 34 (0,0)))∧Aside0 (Below w.heap.size w w'))
      case atStart=>exact ⟨(0),(by first|rfl|(simp;done)|(simp [*];done)),H',⟨Nat.le_refl _⟩,⟨by (with_reducible repeat (first|apply zzf|apply zzg|apply zze));exact BK296.out⟩,⟨by repeat (first|(with_reducible first|exact HB.out|apply zza|apply zzb|apply zzc|refine zzd ?_ GE296.out)|exact HB.out)⟩⟩
      case round=>
       clear H';try clear c1
       try clear c2
       try clear p2
       try clear c3
       try clear c5
       try clear c5b0
       try clear c5b1
       try clear c6
       try clear c6b0
       try clear c6b1
       try clear c7
       try clear c7b0
       try clear c7b1
       try clear c8
       try clear c14
       try clear c16
       try clear c18
       try clear c25
       try clear c26
       try clear c30
       try clear hcz10_0
       try clear hcz10_1
       try clear hcz10_2
       try clear hcz10_3
       try clear hcz10_4
       try clear hcz10_5
       try clear hcz11_0
       try clear hcz11_1
       try clear hcz11_2
       try clear hcz11_3
       try clear hcz11_4
       try clear hcz11_5
       try clear hcz12_0
       try clear hcz12_1
       try clear hcz12_2
       try clear hcz12_3
       try clear hcz12_4
       try clear hcz12_5
       try clear hcz19_0
       try clear hcz19_1
       try clear hcz19_2
       try clear hcz19_3
       try clear hcz19_4
       try clear hcz19_5
       try clear hcz20_0
       try clear hcz20_1
       try clear hcz20_2
       try clear hcz20_3
       try clear hcz20_4
       try clear hcz20_5
       try clear hcz21_0
       try clear hcz21_1
       try clear hcz21_2
       try clear hcz21_3
       try clear hcz21_4
       try clear hcz21_5
       try clear hcz22_0
       try clear hcz22_1
       try clear hcz22_2
       try clear hcz22_3
       try clear hcz22_4
       try clear hcz22_5
       try clear hcz27_0
       try clear hcz27_1
       try clear hcz27_2
       try clear hcz27_3
       try clear hcz27_4
       try clear hcz27_5
       try clear hcz28_0
       try clear hcz28_1
       try clear hcz28_2
       try clear hcz28_3
       try clear hcz28_4
       try clear hcz28_5
       try clear hcz29_0
       try clear hcz29_1
       try clear hcz29_2
       try clear hcz29_3
       try clear hcz29_4
       try clear hcz29_5
       try clear hcz31_0
       try clear hcz31_1
       try clear hcz31_2
       try clear hcz31_3
       try clear hcz31_4
       try clear hcz31_5
       try clear hcz4_0
       try clear hcz4_1
       try clear hcz4_2
       try clear hcz4_3
       try clear hcz4_4
       try clear hcz4_5
       try clear hcz9_0
       try clear hcz9_1
       try clear hcz9_2
       try clear hcz9_3
       try clear hcz9_4
       try clear hcz9_5
       try clear hfz10_0
       try clear hfz10_1
       try clear hfz10_2
       try clear hfz10_3
       try clear hfz10_4
       try clear hfz10_5
       try clear hfz11_0
       try clear hfz11_1
       try clear hfz11_2
       try clear hfz11_3
       try clear hfz11_4
       try clear hfz11_5
       try clear hfz12_0
       try clear hfz12_1
       try clear hfz12_2
       try clear hfz12_3
       try clear hfz12_4
       try clear hfz12_5
       try clear hfz19_0
       try clear hfz19_1
       try clear hfz19_2
       try clear hfz19_3
       try clear hfz19_4
       try clear hfz19_5
       try clear hfz20_0
       try clear hfz20_1
       try clear hfz20_2
       try clear hfz20_3
       try clear hfz20_4
       try clear hfz20_5
       try clear hfz21_0
       try clear hfz21_1
       try clear hfz21_2
       try clear hfz21_3
       try clear hfz21_4
       try clear hfz21_5
       try clear hfz22_0
       try clear hfz22_1
       try clear hfz22_2
       try clear hfz22_3
       try clear hfz22_4
       try clear hfz22_5
       try clear hfz27_0
       try clear hfz27_1
       try clear hfz27_2
       try clear hfz27_3
       try clear hfz27_4
       try clear hfz27_5
       try clear hfz28_0
       try clear hfz28_1
       try clear hfz28_2
       try clear hfz28_3
       try clear hfz28_4
       try clear hfz28_5
       try clear hfz29_0
       try clear hfz29_1
       try clear hfz29_2
       try clear hfz29_3
       try clear hfz29_4
       try clear hfz29_5
       try clear hfz31_0
       try clear hfz31_1
       try clear hfz31_2
       try clear hfz31_3
       try clear hfz31_4
       try clear hfz31_5
       try clear hfz4_0
       try clear hfz4_1
       try clear hfz4_2
       try clear hfz4_3
       try clear hfz4_4
       try clear hfz4_5
       try clear hfz9_0
       try clear hfz9_1
       try clear hfz9_2
       try clear hfz9_3
       try clear hfz9_4
       try clear hfz9_5
       try clear p2
       obtain ⟨x54_3,rfl,HA,HK3,BK296,HB⟩:=hrel;cases gk with
       | zero=>exact absurd HA.out (by simp [Qe.l0])
       | succ k3=>
        have H:=HA.out;clear HA;simp only [Qe.l0] at H;by_cases c32:x54_3 < (l0_5.length:Int)
        ·
         rw [if_pos c32] at H;have c32b0:decide (x54_3 < (l0_5.length:Int))=true:=decide_eq_true c32;clear c32;by_cases c33 : 0≤x54_3
         ·
          rw [if_pos c33] at H;have c33b0:decide (0≤x54_3)=true:=decide_eq_true c33;clear c33;by_cases c34:x54_3 < (l0_5.length:Int)
          ·
           rw [if_pos c34] at H;have c34b0:decide (x54_3 < (l0_5.length:Int))=true:=decide_eq_true c34;clear c34;replace H:=Option.bind_eq_some_iff.mp H;obtain ⟨t303,A350,H⟩:=H;replace H:(if t303=true then (if x54_3 > 0 then (if 0≤(wrap64 (x54_3 - 1)) then (if (wrap64 (x54_3 - 1)) < (l0_5.length:Int) then (if ((Qb l0_5 (wrap64 (x54_3 - 1))).f0) ≥ ((Qb l0_5 x54_3).f0) then (some false) else (Qe.l0 k3 l0_5 (l0_5.length:Int) (wrap64 (x54_3+1)) a0_0 a0_1 a0_2 a0_3 a0_4 l0_5)) else (none)) else (none)) else (Qe.l0 k3 l0_5 (l0_5.length:Int) (wrap64 (x54_3+1)) a0_0 a0_1 a0_2 a0_3 a0_4 l0_5)) else (some false))=some r:=H;have A35:=zzm A350;clear A350;by_cases c36:t303=true
           ·
            subst c36;have H1:(if x54_3 > 0 then (if 0≤(wrap64 (x54_3 - 1)) then (if (wrap64 (x54_3 - 1)) < (l0_5.length:Int) then (if ((Qb l0_5 (wrap64 (x54_3 - 1))).f0) ≥ ((Qb l0_5 x54_3).f0) then (some false) else (Qe.l0 k3 l0_5 (l0_5.length:Int) (wrap64 (x54_3+1)) a0_0 a0_1 a0_2 a0_3 a0_4 l0_5)) else (none)) else (none)) else (Qe.l0 k3 l0_5 (l0_5.length:Int) (wrap64 (x54_3+1)) a0_0 a0_1 a0_2 a0_3 a0_4 l0_5))=some r:=by rw [if_pos rfl] at H;exact H
            clear H;have H:=H1;clear H1;by_cases c37:x54_3 > 0
            ·
             rw [if_pos c37] at H;have c37b0:decide (0 < x54_3)=true:=decide_eq_true c37;clear c37;obtain ⟨ji38,hji38⟩:∃ j_:Int,(wrap64 (x54_3 - 1))=j_:=⟨_,rfl⟩;replace H:(if 0≤(ji38) then (if (ji38) < (l0_5.length:Int) then (if ((Qb l0_5 (ji38)).f0) ≥ ((Qb l0_5 x54_3).f0) then (some false) else (Qe.l0 k3 l0_5 (l0_5.length:Int) (wrap64 (x54_3+1)) a0_0 a0_1 a0_2 a0_3 a0_4 l0_5)) else (none)) else (none))=some r:=by first|(rw [hji38] at H;exact H)|(simp only [hji38] at H ⊢;exact H)
             (try rw [hji38] at A35);have hji38w:(IntKind.i64.wrap (x54_3 - 1))=ji38:=(i64_w _).trans hji38;by_cases c39 : 0≤(ji38)
             ·
              rw [if_pos c39] at H;have c39b0:decide (0≤(ji38))=true:=decide_eq_true c39;clear c39;by_cases c40:(ji38) < (l0_5.length:Int)
              ·
               rw [if_pos c40] at H;have c40b0:decide ((ji38) < (l0_5.length:Int))=true:=decide_eq_true c40;clear c40;by_cases c41:((Qb l0_5 (ji38)).f0) ≥ ((Qb l0_5 x54_3).f0)
               ·
                rw [if_pos c41] at H;have c41b0:decide (((Qb l0_5 x54_3).f0)≤((Qb l0_5 (ji38)).f0))=true:=decide_eq_true c41;clear c41;obtain rfl:=Option.some.inj H;have p301 : 0≤(x54_3:Int):=zzt;have q301:x54_3 < (l0_5.length:Int):=zzt;obtain ⟨ad301,A301_3,c301_3,A301_5,c301_5,e301,hx301_0,hx301_1,hx301_2,hx301_3,hx301_4,hx301_5,hl301_3,hi301_3,hl301_5,hi301_5⟩:=Qy HR0_5.out x54_3 p301 q301;cases e301;replace hx301_0:=zzx HB.out hx301_0;replace hx301_1:=zzx HB.out hx301_1;replace hx301_2:=zzx HB.out hx301_2;replace hx301_3:=zzx HB.out hx301_3;replace hx301_4:=zzx HB.out hx301_4;replace hx301_5:=zzx HB.out hx301_5;have HR301_3:=zzm hi301_3;have HC301_3:=zzm hl301_3;clear hi301_3 hl301_3;have HR301_5:=zzm hi301_5;have HC301_5:=zzm hl301_5;clear hi301_5 hl301_5;replace p301:=eq_true p301;replace q301:=eq_true q301;try go_wp2_with (first|((with_reducible refine gate_dst (N:=4) rfl ?_);(try (refine gate_guard (by rfl) ?_;dsimp only));refine box_event ?hg (N:=4) ?hd (cs:=#[.int .i64 0,.int .i64 0,.bool false,.slice none 0 0,.bool false,.slice none 0 0]) (t:=30) ?hr ?_;(case hd=>rfl);(case hg=>rfl);(case hr=>first|(go_simp;done)|(go_simp;rfl));intro gb302 hg w42 hbox hb;have n0_:=zzm (zzh (g:=gb296) (o:=.cells #[.bool a0_0,.bool a0_1,.int .i64 a0_2,.int .i64 a0_3,.int .i64 a0_4,.slice (some ad301) l0_5.length c0_5] 34 (0,0)) (zzE BK296.out) hb);have n1_:=zzm (zzp zzh2 hb);have n2_:=zzm (hbox);have n3_:=zzm ((by rw [hg];exact (zzo zzh2):w.heap.size≤gb302));have n4_:=zzm ((by rw [hg];exact (zzo zzh2):w.heap.size≤gb302));have n5_:=zzm ((by rw [hg];exact Nat.ne_of_lt (blk_lt (g:=gb296) (o:=.cells #[.bool a0_0,.bool a0_1,.int .i64 a0_2,.int .i64 a0_3,.int .i64 a0_4,.slice (some ad301) l0_5.length c0_5] 34 (0,0)) (zzE BK296.out)):gb296≠gb302));have n6_:=zzm ((by rw [hg];exact Nat.ne_of_gt (blk_lt (g:=gb296) (o:=.cells #[.bool a0_0,.bool a0_1,.int .i64 a0_2,.int .i64 a0_3,.int .i64 a0_4,.slice (some ad301) l0_5.length c0_5] 34 (0,0)) (zzE BK296.out)):gb302≠gb296));clear BK296 HB;have BK296:=n0_;have HB:=n1_;have BK302:=n2_;have GW302:=n3_;have GE302:=n4_;have NB296_302:=n5_;have NB302_296:=n6_;clear n0_ n1_ n2_ n3_ n4_ n5_ n6_ hb hbox hg;have hnb43:=NB302_296.out;have hnc43:=NB296_302.out;obtain ⟨hcz44_0,hcz44_1,hcz44_2,hcz44_3,hcz44_4,hcz44_5,hfz44_0,hfz44_1,hfz44_2,hfz44_3,hfz44_4,hfz44_5⟩:=zzc6 BK302.out))
                have n0_:Aside0 (((((((w42.setCell ⟨gb302,0,none⟩ (.int .i64 ((Qb l0_5 x54_3).f0))).setCell ⟨gb302,1,none⟩ (.int .i64 ((Qb l0_5 x54_3).f1))).setCell ⟨gb302,2,none⟩ (.bool ((Qb l0_5 x54_3).f2))).setCell ⟨gb302,3,none⟩ (.slice A301_3 ((Qb l0_5 x54_3).f3).length c301_3)).setCell ⟨gb302,4,none⟩ (.bool ((Qb l0_5 x54_3).f4))).setCell ⟨gb302,5,none⟩ (.slice A301_5 ((Qb l0_5 x54_3).f5).length c301_5)).heap[gb296]? = some (.cells #[.bool a0_0,.bool a0_1,.int .i64 a0_2,.int .i64 a0_3,.int .i64 a0_4,.slice (some ad301) l0_5.length c0_5] 34 (0,0))):=⟨by (with_reducible repeat (first|apply zzf|apply zzg|apply zze));refine zzj ?_ NB296_302.out _;(with_reducible repeat (first|apply zzf|apply zzg|apply zze));refine zzj ?_ NB296_302.out _;(with_reducible repeat (first|apply zzf|apply zzg|apply zze));refine zzj ?_ NB296_302.out _;(with_reducible repeat (first|apply zzf|apply zzg|apply zze));refine zzj ?_ NB296_302.out _;(with_reducible repeat (first|apply zzf|apply zzg|apply zze));refine zzj ?_ NB296_302.out _;(with_reducible repeat (first|apply zzf|apply zzg|apply zze));refine zzj ?_ NB296_302.out _;(with_reducible repeat (first|apply zzf|apply zzg|apply zze));exact BK296.out⟩;have n1_:Aside0 (((((((w42.setCell ⟨gb302,0,none⟩ (.int .i64 ((Qb l0_5 x54_3).f0))).setCell ⟨gb302,1,none⟩ (.int .i64 ((Qb l0_5 x54_3).f1))).setCell ⟨gb302,2,none⟩ (.bool ((Qb l0_5 x54_3).f2))).setCell ⟨gb302,3,none⟩ (.slice A301_3 ((Qb l0_5 x54_3).f3).length c301_3)).setCell ⟨gb302,4,none⟩ (.bool ((Qb l0_5 x54_3).f4))).setCell ⟨gb302,5,none⟩ (.slice A301_5 ((Qb l0_5 x54_3).f5).length c301_5)).heap[gb302]? = some (.cells #[.int .i64 ((Qb l0_5 x54_3).f0),.int .i64 ((Qb l0_5 x54_3).f1),.bool ((Qb l0_5 x54_3).f2),.slice A301_3 ((Qb l0_5 x54_3).f3).length c301_3,.bool ((Qb l0_5 x54_3).f4),.slice A301_5 ((Qb l0_5 x54_3).f5).length c301_5] 30 (0,0))):=⟨by (with_reducible repeat (first|apply zzf|apply zzg|apply zze));refine zzi (cs:=#[.int .i64 ((Qb l0_5 x54_3).f0),.int .i64 ((Qb l0_5 x54_3).f1),.bool ((Qb l0_5 x54_3).f2),.slice A301_3 ((Qb l0_5 x54_3).f3).length c301_3,.bool ((Qb l0_5 x54_3).f4),.slice none 0 0]) ?_ 5 _ rfl;(with_reducible repeat (first|apply zzf|apply zzg|apply zze));refine zzi (cs:=#[.int .i64 ((Qb l0_5 x54_3).f0),.int .i64 ((Qb l0_5 x54_3).f1),.bool ((Qb l0_5 x54_3).f2),.slice A301_3 ((Qb l0_5 x54_3).f3).length c301_3,.bool false,.slice none 0 0]) ?_ 4 _ rfl;(with_reducible repeat (first|apply zzf|apply zzg|apply zze));refine zzi (cs:=#[.int .i64 ((Qb l0_5 x54_3).f0),.int .i64 ((Qb l0_5 x54_3).f1),.bool ((Qb l0_5 x54_3).f2),.slice none 0 0,.bool false,.slice none 0 0]) ?_ 3 _ rfl;(with_reducible repeat (first|apply zzf|apply zzg|apply zze));refine zzi (cs:=#[.int .i64 ((Qb l0_5 x54_3).f0),.int .i64 ((Qb l0_5 x54_3).f1),.bool false,.slice none 0 0,.bool false,.slice none 0 0]) ?_ 2 _ rfl;(with_reducible repeat (first|apply zzf|apply zzg|apply zze));refine zzi (cs:=#[.int .i64 ((Qb l0_5 x54_3).f0),.int .i64 0,.bool false,.slice none 0 0,.bool false,.slice none 0 0]) ?_ 1 _ rfl;(with_reducible repeat (first|apply zzf|apply zzg|apply zze));refine zzi (cs:=#[.int .i64 0,.int .i64 0,.bool false,.slice none 0 0,.bool false,.slice none 0 0]) ?_ 0 _ rfl;(with_reducible repeat (first|apply zzf|apply zzg|apply zze));exact BK302.out⟩;have n2_:Aside0 (Below w.heap.size w ((((((w42.setCell ⟨gb302,0,none⟩ (.int .i64 ((Qb l0_5 x54_3).f0))).setCell ⟨gb302,1,none⟩ (.int .i64 ((Qb l0_5 x54_3).f1))).setCell ⟨gb302,2,none⟩ (.bool ((Qb l0_5 x54_3).f2))).setCell ⟨gb302,3,none⟩ (.slice A301_3 ((Qb l0_5 x54_3).f3).length c301_3)).setCell ⟨gb302,4,none⟩ (.bool ((Qb l0_5 x54_3).f4))).setCell ⟨gb302,5,none⟩ (.slice A301_5 ((Qb l0_5 x54_3).f5).length c301_5))):=⟨by repeat (first|(with_reducible first|exact HB.out|apply zza|apply zzb|apply zzc|refine zzd ?_ GE296.out|refine zzd ?_ GE302.out)|exact HB.out)⟩
                (try clear BK296)
                (try clear BK302)
                (try clear HB);generalize ((((((w42.setCell ⟨gb302,0,none⟩ (.int .i64 ((Qb l0_5 x54_3).f0))).setCell ⟨gb302,1,none⟩ (.int .i64 ((Qb l0_5 x54_3).f1))).setCell ⟨gb302,2,none⟩ (.bool ((Qb l0_5 x54_3).f2))).setCell ⟨gb302,3,none⟩ (.slice A301_3 ((Qb l0_5 x54_3).f3).length c301_3)).setCell ⟨gb302,4,none⟩ (.bool ((Qb l0_5 x54_3).f4))).setCell ⟨gb302,5,none⟩ (.slice A301_5 ((Qb l0_5 x54_3).f5).length c301_5))=w45 at n0_ n1_ n2_ ⊢;have BK296:=n0_;have BK302:=n1_;have HB:=n2_;clear n0_ n1_ n2_;have n0_:=zzm (zzg BK296.out);have n1_:=zzm (zzg BK302.out);have n2_:=zzm (zzc HB.out);clear BK296 BK302 HB;have BK296:=n0_;have BK302:=n1_;have HB:=n2_;clear n0_ n1_ n2_;have p304 : 0≤((ji38):Int):=zzt;have q304:(ji38) < (l0_5.length:Int):=zzt;obtain ⟨ad304,A304_3,c304_3,A304_5,c304_5,e304,hx304_0,hx304_1,hx304_2,hx304_3,hx304_4,hx304_5,hl304_3,hi304_3,hl304_5,hi304_5⟩:=Qy HR0_5.out (ji38) p304 q304;have hw304_5:=hx304_5;have hw304_4:=hx304_4;have hw304_3:=hx304_3;have hw304_2:=hx304_2;have hw304_1:=hx304_1;have hw304_0:=hx304_0;obtain rfl:ad301=ad304:=(by injection e304);replace hx304_0:=zzx HB.out hx304_0;replace hx304_1:=zzx HB.out hx304_1;replace hx304_2:=zzx HB.out hx304_2;replace hx304_3:=zzx HB.out hx304_3;replace hx304_4:=zzx HB.out hx304_4;replace hx304_5:=zzx HB.out hx304_5;have HR304_3:=zzm hi304_3;have HC304_3:=zzm hl304_3;clear hi304_3 hl304_3;have HR304_5:=zzm hi304_5;have HC304_5:=zzm hl304_5;clear hi304_5 hl304_5;replace p304:=eq_true p304;replace q304:=eq_true q304;refine start_ (n:=19) (S:=fun w'=>w'.cell? ⟨gb302,0,none⟩=some (.int .i64 ((Qb l0_5 x54_3).f0))∧w'.cell? ⟨gb302,1,none⟩=some (.int .i64 ((Qb l0_5 x54_3).f1))∧w'.cell? ⟨gb302,2,none⟩=some (.bool ((Qb l0_5 x54_3).f2))∧w'.cell? ⟨gb302,3,none⟩=some (.slice A301_3 ((Qb l0_5 x54_3).f3).length c301_3)∧w'.cell? ⟨gb302,4,none⟩=some (.bool ((Qb l0_5 x54_3).f4))∧w'.cell? ⟨gb302,5,none⟩=some (.slice A301_5 ((Qb l0_5 x54_3).f5).length c301_5)∧w'.cell? ⟨gb296,0,none⟩=some (.bool a0_0)∧w'.cell? ⟨gb296,1,none⟩=some (.bool a0_1)∧w'.cell? ⟨gb296,2,none⟩=some (.int .i64 a0_2)∧w'.cell? ⟨gb296,3,none⟩=some (.int .i64 a0_3)∧w'.cell? ⟨gb296,4,none⟩=some (.int .i64 a0_4)∧w'.cell? ⟨gb296,5,none⟩=some (.slice (some ad301) l0_5.length c0_5)∧w'.cell? (ad301.add (((ji38)).toNat * 6))=some (.int .i64 ((Qb l0_5 (ji38)).f0))∧w'.cell? ⟨(ad301.add (((ji38)).toNat * 6)).block,(ad301.add (((ji38)).toNat * 6)).off+1,none⟩=some (.int .i64 ((Qb l0_5 (ji38)).f1))∧w'.cell? ⟨(ad301.add (((ji38)).toNat * 6)).block,(ad301.add (((ji38)).toNat * 6)).off+2,none⟩=some (.bool ((Qb l0_5 (ji38)).f2))∧w'.cell? ⟨(ad301.add (((ji38)).toNat * 6)).block,(ad301.add (((ji38)).toNat * 6)).off+3,none⟩=some (.slice A304_3 ((Qb l0_5 (ji38)).f3).length c304_3)∧w'.cell? ⟨(ad301.add (((ji38)).toNat * 6)).block,(ad301.add (((ji38)).toNat * 6)).off+4,none⟩=some (.bool ((Qb l0_5 (ji38)).f4))∧w'.cell? ⟨(ad301.add (((ji38)).toNat * 6)).block,(ad301.add (((ji38)).toNat * 6)).off+5,none⟩=some (.slice A304_5 ((Qb l0_5 (ji38)).f5).length c304_5)) (ds:=[]) (zzB 19 0) (by kernel_rfl) rfl rfl ⟨(zzk BK302.out 0).trans rfl,(zzk BK302.out 1).trans rfl,(zzk BK302.out 2).trans rfl,(zzk BK302.out 3).trans rfl,(zzk BK302.out 4).trans rfl,(zzk BK302.out 5).trans rfl,(zzk BK296.out 0).trans rfl,(zzk BK296.out 1).trans rfl,(zzk BK296.out 2).trans rfl,(zzk BK296.out 3).trans rfl,(zzk BK296.out 4).trans rfl,(zzk BK296.out 5).trans rfl,(zzx HB.out hw304_0),(zzx HB.out hw304_1),(zzx HB.out hw304_2),(zzx HB.out hw304_3),(zzx HB.out hw304_4),(zzx HB.out hw304_5)⟩ (fun hHeld=>?_);refine with_tabW Qe.tab11 Qe.bits11 (fun HT_ HW_=>?_);generalize w45.drew=w46 at BK296 BK302 HB HR304_3 HR304_5 hx304_0 hx304_1 hx304_2 hx304_3 hx304_4 hx304_5 hHeld ⊢;refine take_ (i:=0) (N:=some 59) (v:=?_) (a':=?_) (zzB 19 1) rfl rfl (take_ofW HT_.out HW_.out (by kernel_rfl)) (fun _ _ _ h=>h) (Or.inl ⟨by rfl,?_⟩) hHeld ?_ ?_;rotate_left
                ·
                 rintro w' ⟨s0,s1,s2,s3,s4,s5,s6,s7,s8,s9,s10,s11,s12,s13,s14,s15,s16,s17⟩;go_simp;with_reducible rfl
                rotate_left
                ·
                 simp only [Act.put,zzq,zzr,zzs,i64_w,i32_w];rfl
                refine one_ (i:=1) (N:=some 60) (zzB 19 3) rfl rfl (one_of HT_.out (by kernel_rfl)) (by decide) (fun K hK=>?_);refine goes_ Try.func79 (by kernel_rfl) rfl #[.agg #[.int .i64 ((Qb l0_5 x54_3).f0),.int .i64 ((Qb l0_5 x54_3).f1),.bool ((Qb l0_5 x54_3).f2),.slice A301_3 ((Qb l0_5 x54_3).f3).length c301_3,.bool ((Qb l0_5 x54_3).f4),.slice A301_5 ((Qb l0_5 x54_3).f5).length c301_5]] (by rfl) rfl rfl zzM2 ?_;with_reducible refine (Q3.calls k3 ((Qb l0_5 x54_3).f0) ((Qb l0_5 x54_3).f1) ((Qb l0_5 x54_3).f2) _ _ ((Qb l0_5 x54_3).f3) ((Qb l0_5 x54_3).f4) _ _ ((Qb l0_5 x54_3).f5) true _ ?side1 ?side2 ?side3 ?side4 A35.out).mono ?_
                (case side1=>repeat (first|exact (Kd.C_below HR301_3.out HB.out)|(with_reducible refine Kd.C_alloc ?_ _)|(with_reducible refine Kd.C_drewN ?_ _)|(with_reducible refine Kd.C_drew ?_)))
                (case side2=>exact HC301_3.out)
                (case side3=>repeat (first|exact (Kd.C_below HR301_5.out HB.out)|(with_reducible refine Kd.C_alloc ?_ _)|(with_reducible refine Kd.C_drewN ?_ _)|(with_reducible refine Kd.C_drew ?_)))
                (case side4=>exact HC301_5.out);rintro e w47 ⟨rfl,hb⟩;refine ⟨_,rfl,?_⟩;have n0_:=zzm (zzh (g:=gb296) (o:=.cells #[.bool a0_0,.bool a0_1,.int .i64 a0_2,.int .i64 a0_3,.int .i64 a0_4,.slice (some ad301) l0_5.length c0_5] 34 (0,0)) (zzE BK296.out) hb);have n1_:=zzm (zzh (g:=gb302) (o:=.cells #[.int .i64 ((Qb l0_5 x54_3).f0),.int .i64 ((Qb l0_5 x54_3).f1),.bool ((Qb l0_5 x54_3).f2),.slice A301_3 ((Qb l0_5 x54_3).f3).length c301_3,.bool ((Qb l0_5 x54_3).f4),.slice A301_5 ((Qb l0_5 x54_3).f5).length c301_5] 30 (0,0)) (zzE BK302.out) hb);have n2_:=zzm (zzp zzh2 hb);clear BK296 BK302 HB;have BK296:=n0_;have BK302:=n1_;have HB:=n2_;clear n0_ n1_ n2_
                (try clear hb)
                (try clear hb2)
                (try clear hk)
                (try clear hi);refine hK.out _ _ ⟨(zzk BK302.out 0).trans rfl,(zzk BK302.out 1).trans rfl,(zzk BK302.out 2).trans rfl,(zzk BK302.out 3).trans rfl,(zzk BK302.out 4).trans rfl,(zzk BK302.out 5).trans rfl,(zzk BK296.out 0).trans rfl,(zzk BK296.out 1).trans rfl,(zzk BK296.out 2).trans rfl,(zzk BK296.out 3).trans rfl,(zzk BK296.out 4).trans rfl,(zzk BK296.out 5).trans rfl,(zzx HB.out hw304_0),(zzx HB.out hw304_1),(zzx HB.out hw304_2),(zzx HB.out hw304_3),(zzx HB.out hw304_4),(zzx HB.out hw304_5)⟩ (fun hHeld=>?_);clear hK K;refine norm_ (a':=?_) ?_ ?_;rotate_left
                ·
                 show Act.put _ (some 60) _ = _;simp only [Act.put,zzq,zzr,zzs,i64_w,i32_w];rfl
                refine pure_ (i:=2) (N:=some 61) (v:=?_) (a':=?_) (zzB 19 7) rfl rfl (zzA2 HT_.out) (fun _ _ _ h=>h) (Or.inl ⟨by rfl,?_⟩) ?_ ?_;rotate_left
                ·
                 intro w';go_simp;with_reducible rfl
                rotate_left
                ·
                 simp only [Act.put,zzq,zzr,zzs,i64_w,i32_w];rfl
                refine pure_ (i:=3) (N:=some 62) (v:=?_) (a':=?_) (zzB 19 15) rfl rfl (zzA2 HT_.out) (fun _ _ _ h=>h) (Or.inl ⟨by rfl,?_⟩) ?_ ?_;rotate_left
                ·
                 intro w';go_simp;with_reducible rfl
                rotate_left
                ·
                 simp only [Act.put,zzq,zzr,zzs,i64_w,i32_w];rfl
                refine pure_ (i:=4) (N:=some 63) (v:=?_) (a':=?_) (zzB 19 31) rfl rfl (zzA2 HT_.out) (fun _ _ _ h=>h) (Or.inl ⟨by rfl,?_⟩) ?_ ?_;rotate_left
                ·
                 intro w';go_simp;with_reducible rfl
                rotate_left
                ·
                 simp only [Act.put,zzq,zzr,zzs,i64_w,i32_w];rfl
                refine pure_ (i:=5) (N:=some 64) (v:=?_) (a':=?_) (zzB 19 63) rfl rfl (zzA2 HT_.out) (fun _ _ _ h=>h) (Or.inl ⟨by rfl,?_⟩) ?_ ?_;rotate_left
                ·
                 intro w';go_simp;with_reducible rfl
                rotate_left
                ·
                 simp only [Act.put,zzq,zzr,zzs,i64_w,i32_w];rfl
                refine pure_ (i:=6) (N:=some 65) (v:=?_) (a':=?_) (zzB 19 127) rfl rfl (zzA2 HT_.out) (fun _ _ _ h=>h) (Or.inl ⟨by rfl,?_⟩) ?_ ?_;rotate_left
                ·
                 intro w';go_simp;with_reducible rfl
                rotate_left
                ·
                 simp only [Act.put,zzq,zzr,zzs,i64_w,i32_w];rfl
                refine pure_ (i:=7) (N:=some 66) (v:=?_) (a':=?_) (zzB 19 255) rfl rfl (zzA2 HT_.out) (fun _ _ _ h=>h) (Or.inl ⟨by rfl,?_⟩) ?_ ?_;rotate_left
                ·
                 intro w';go_simp;with_reducible rfl
                rotate_left
                ·
                 simp only [Act.put,zzq,zzr,zzs,i64_w,i32_w];rfl
                refine pure_ (i:=9) (N:=some 68) (v:=?_) (a':=?_) (zzB 19 767) rfl rfl (zzA2 HT_.out) (fun _ _ _ h=>h) (Or.inl ⟨by rfl,?_⟩) ?_ ?_;rotate_left
                ·
                 intro w';go_simp;with_reducible rfl
                rotate_left
                ·
                 simp only [Act.put,zzq,zzr,zzs,i64_w,i32_w];rfl
                refine pure_ (i:=10) (N:=some 69) (v:=?_) (a':=?_) (zzB 19 1791) rfl rfl (zzA2 HT_.out) (fun _ _ _ h=>h) (Or.inl ⟨by rfl,?_⟩) ?_ ?_;rotate_left
                ·
                 intro w';go_simp;with_reducible rfl
                rotate_left
                ·
                 simp only [Act.put,zzq,zzr,zzs,i64_w,i32_w];rfl
                refine pure_ (i:=14) (N:=some 73) (v:=?_) (a':=?_) (zzB 19 18175) rfl rfl (zzA2 HT_.out) (fun _ _ _ h=>h) (Or.inl ⟨by rfl,?_⟩) ?_ ?_;rotate_left
                ·
                 intro w';go_simp;with_reducible rfl
                rotate_left
                ·
                 simp only [Act.put,zzq,zzr,zzs,i64_w,i32_w];rfl
                refine take_ (i:=8) (N:=some 67) (v:=?_) (a':=?_) (zzB 19 18431) rfl rfl (take_ofW HT_.out HW_.out (by kernel_rfl)) (fun _ _ _ h=>h) (Or.inl ⟨by rfl,?_⟩) hHeld ?_ ?_;rotate_left
                ·
                 rintro w' ⟨s0,s1,s2,s3,s4,s5,s6,s7,s8,s9,s10,s11,s12,s13,s14,s15,s16,s17⟩;go_simp;with_reducible rfl
                rotate_left
                ·
                 simp only [Act.put,zzq,zzr,zzs,i64_w,i32_w];rfl
                refine pure_ (i:=11) (N:=some 70) (v:=?_) (a':=?_) (zzB 19 20479) rfl rfl (zzA2 HT_.out) (fun _ _ _ h=>h) (Or.inl ⟨by rfl,?_⟩) ?_ ?_;rotate_left
                ·
                 intro w';go_simp;with_reducible rfl
                rotate_left
                ·
                 simp only [Act.put,zzq,zzr,zzs,i64_w,i32_w];rfl
                refine pure_ (i:=12) (N:=some 71) (v:=?_) (a':=?_) (zzB 19 24575) rfl rfl (zzA2 HT_.out) (fun _ _ _ h=>h) (Or.inl ⟨by rfl,?_⟩) ?_ ?_;rotate_left
                ·
                 intro w';go_simp;with_reducible rfl
                rotate_left
                ·
                 simp only [Act.put,zzq,zzr,zzs,i64_w,i32_w];rfl
                refine take_ (i:=13) (N:=some 72) (v:=?_) (a':=?_) (zzB 19 32767) rfl rfl (take_ofW HT_.out HW_.out (by kernel_rfl)) (fun _ _ _ h=>h) (Or.inl ⟨by rfl,?_⟩) hHeld ?_ ?_;rotate_left
                ·
                 rintro w' ⟨s0,s1,s2,s3,s4,s5,s6,s7,s8,s9,s10,s11,s12,s13,s14,s15,s16,s17⟩;go_simp;with_reducible rfl
                rotate_left
                ·
                 simp only [Act.put,zzq,zzr,zzs,i64_w,i32_w];rfl
                refine take_ (i:=15) (N:=some 74) (v:=?_) (a':=?_) (zzB 19 65535) rfl rfl (take_ofW HT_.out HW_.out (by kernel_rfl)) (fun _ _ _ h=>h) (Or.inl ⟨by rfl,?_⟩) hHeld ?_ ?_;rotate_left
                ·
                 rintro w' ⟨s0,s1,s2,s3,s4,s5,s6,s7,s8,s9,s10,s11,s12,s13,s14,s15,s16,s17⟩;go_simp;with_reducible rfl
                rotate_left
                ·
                 simp only [Act.put,zzq,zzr,zzs,i64_w,i32_w];rfl
                refine pure_ (i:=16) (N:=some 75) (v:=?_) (a':=?_) (zzB 19 131071) rfl rfl (zzA2 HT_.out) (fun _ _ _ h=>h) (Or.inl ⟨by rfl,?_⟩) ?_ ?_;rotate_left
                ·
                 intro w';go_simp;with_reducible rfl
                rotate_left
                ·
                 simp only [Act.put,zzq,zzr,zzs,i64_w,i32_w];rfl
                refine pure_ (i:=17) (N:=some 76) (v:=?_) (a':=?_) (zzB 19 262143) rfl rfl (zzA2 HT_.out) (fun _ _ _ h=>h) (Or.inl ⟨by rfl,?_⟩) ?_ ?_;rotate_left
                ·
                 intro w';go_simp;with_reducible rfl
                rotate_left
                ·
                 simp only [Act.put,zzq,zzr,zzs,i64_w,i32_w];rfl
                refine pure_ (i:=18) (N:=some 77) (v:=?_) (a':=?_) (zzB 19 524287) rfl rfl (zzA2 HT_.out) (fun _ _ _ h=>h) (Or.inl ⟨by rfl,?_⟩) ?_ ?_;rotate_left
                ·
                 intro w';go_simp;with_reducible rfl
                rotate_left
                ·
                 simp only [Act.put,zzq,zzr,zzs,i64_w,i32_w];rfl
                refine done_ (done_of HT_.out (by kernel_rfl)) ?_;try go_wp2
                go_ret;exact ⟨by first|rfl|(simp [errW_none,errW_some] <;> rfl)|(simp only [← hji38];first|rfl|(simp [errW_none,errW_some] <;> rfl))|(simp [*,errW_none,errW_some] <;> rfl),by repeat (first|(with_reducible first|exact HB.out|apply zza|apply zzb|apply zzc|refine zzd ?_ GE296.out|refine zzd ?_ GE302.out)|exact HB.out)⟩
               ·
                rw [if_neg c41] at H;have c41b0:decide (((Qb l0_5 x54_3).f0)≤((Qb l0_5 (ji38)).f0))=false:=decide_eq_false c41;clear c41;have H':=zzm H;clear H;have p301 : 0≤(x54_3:Int):=zzt;have q301:x54_3 < (l0_5.length:Int):=zzt;obtain ⟨ad301,A301_3,c301_3,A301_5,c301_5,e301,hx301_0,hx301_1,hx301_2,hx301_3,hx301_4,hx301_5,hl301_3,hi301_3,hl301_5,hi301_5⟩:=Qy HR0_5.out x54_3 p301 q301;cases e301;replace hx301_0:=zzx HB.out hx301_0;replace hx301_1:=zzx HB.out hx301_1;replace hx301_2:=zzx HB.out hx301_2;replace hx301_3:=zzx HB.out hx301_3;replace hx301_4:=zzx HB.out hx301_4;replace hx301_5:=zzx HB.out hx301_5;have HR301_3:=zzm hi301_3;have HC301_3:=zzm hl301_3;clear hi301_3 hl301_3;have HR301_5:=zzm hi301_5;have HC301_5:=zzm hl301_5;clear hi301_5 hl301_5;replace p301:=eq_true p301;replace q301:=eq_true q301;try go_wp2_with (first|((with_reducible refine gate_dst (N:=4) rfl ?_);(try (refine gate_guard (by rfl) ?_;dsimp only));refine box_event ?hg (N:=4) ?hd (cs:=#[.int .i64 0,.int .i64 0,.bool false,.slice none 0 0,.bool false,.slice none 0 0]) (t:=30) ?hr ?_;(case hd=>rfl);(case hg=>rfl);(case hr=>first|(go_simp;done)|(go_simp;rfl));intro gb302 hg w48 hbox hb;have n0_:=zzm (zzh (g:=gb296) (o:=.cells #[.bool a0_0,.bool a0_1,.int .i64 a0_2,.int .i64 a0_3,.int .i64 a0_4,.slice (some ad301) l0_5.length c0_5] 34 (0,0)) (zzE BK296.out) hb);have n1_:=zzm (zzp zzh2 hb);have n2_:=zzm (hbox);have n3_:=zzm ((by rw [hg];exact (zzo zzh2):w.heap.size≤gb302));have n4_:=zzm ((by rw [hg];exact (zzo zzh2):w.heap.size≤gb302));have n5_:=zzm ((by rw [hg];exact Nat.ne_of_lt (blk_lt (g:=gb296) (o:=.cells #[.bool a0_0,.bool a0_1,.int .i64 a0_2,.int .i64 a0_3,.int .i64 a0_4,.slice (some ad301) l0_5.length c0_5] 34 (0,0)) (zzE BK296.out)):gb296≠gb302));have n6_:=zzm ((by rw [hg];exact Nat.ne_of_gt (blk_lt (g:=gb296) (o:=.cells #[.bool a0_0,.bool a0_1,.int .i64 a0_2,.int .i64 a0_3,.int .i64 a0_4,.slice (some ad301) l0_5.length c0_5] 34 (0,0)) (zzE BK296.out)):gb302≠gb296));clear BK296 HB;have BK296:=n0_;have HB:=n1_;have BK302:=n2_;have GW302:=n3_;have GE302:=n4_;have NB296_302:=n5_;have NB302_296:=n6_;clear n0_ n1_ n2_ n3_ n4_ n5_ n6_ hb hbox hg;have hnb49:=NB302_296.out;have hnc49:=NB296_302.out;obtain ⟨hcz50_0,hcz50_1,hcz50_2,hcz50_3,hcz50_4,hcz50_5,hfz50_0,hfz50_1,hfz50_2,hfz50_3,hfz50_4,hfz50_5⟩:=zzc6 BK302.out))
                have n0_:Aside0 (((((((w48.setCell ⟨gb302,0,none⟩ (.int .i64 ((Qb l0_5 x54_3).f0))).setCell ⟨gb302,1,none⟩ (.int .i64 ((Qb l0_5 x54_3).f1))).setCell ⟨gb302,2,none⟩ (.bool ((Qb l0_5 x54_3).f2))).setCell ⟨gb302,3,none⟩ (.slice A301_3 ((Qb l0_5 x54_3).f3).length c301_3)).setCell ⟨gb302,4,none⟩ (.bool ((Qb l0_5 x54_3).f4))).setCell ⟨gb302,5,none⟩ (.slice A301_5 ((Qb l0_5 x54_3).f5).length c301_5)).heap[gb296]? = some (.cells #[.bool a0_0,.bool a0_1,.int .i64 a0_2,.int .i64 a0_3,.int .i64 a0_4,.slice (some ad301) l0_5.length c0_5] 34 (0,0))):=⟨by (with_reducible repeat (first|apply zzf|apply zzg|apply zze));refine zzj ?_ NB296_302.out _;(with_reducible repeat (first|apply zzf|apply zzg|apply zze));refine zzj ?_ NB296_302.out _;(with_reducible repeat (first|apply zzf|apply zzg|apply zze));refine zzj ?_ NB296_302.out _;(with_reducible repeat (first|apply zzf|apply zzg|apply zze));refine zzj ?_ NB296_302.out _;(with_reducible repeat (first|apply zzf|apply zzg|apply zze));refine zzj ?_ NB296_302.out _;(with_reducible repeat (first|apply zzf|apply zzg|apply zze));refine zzj ?_ NB296_302.out _;(with_reducible repeat (first|apply zzf|apply zzg|apply zze));exact BK296.out⟩;have n1_:Aside0 (((((((w48.setCell ⟨gb302,0,none⟩ (.int .i64 ((Qb l0_5 x54_3).f0))).setCell ⟨gb302,1,none⟩ (.int .i64 ((Qb l0_5 x54_3).f1))).setCell ⟨gb302,2,none⟩ (.bool ((Qb l0_5 x54_3).f2))).setCell ⟨gb302,3,none⟩ (.slice A301_3 ((Qb l0_5 x54_3).f3).length c301_3)).setCell ⟨gb302,4,none⟩ (.bool ((Qb l0_5 x54_3).f4))).setCell ⟨gb302,5,none⟩ (.slice A301_5 ((Qb l0_5 x54_3).f5).length c301_5)).heap[gb302]? = some (.cells #[.int .i64 ((Qb l0_5 x54_3).f0),.int .i64 ((Qb l0_5 x54_3).f1),.bool ((Qb l0_5 x54_3).f2),.slice A301_3 ((Qb l0_5 x54_3).f3).length c301_3,.bool ((Qb l0_5 x54_3).f4),.slice A301_5 ((Qb l0_5 x54_3).f5).length c301_5] 30 (0,0))):=⟨by (with_reducible repeat (first|apply zzf|apply zzg|apply zze));refine zzi (cs:=#[.int .i64 ((Qb l0_5 x54_3).f0),.int .i64 ((Qb l0_5 x54_3).f1),.bool ((Qb l0_5 x54_3).f2),.slice A301_3 ((Qb l0_5 x54_3).f3).length c301_3,.bool ((Qb l0_5 x54_3).f4),.slice none 0 0]) ?_ 5 _ rfl;(with_reducible repeat (first|apply zzf|apply zzg|apply zze));refine zzi (cs:=#[.int .i64 ((Qb l0_5 x54_3).f0),.int .i64 ((Qb l0_5 x54_3).f1),.bool ((Qb l0_5 x54_3).f2),.slice A301_3 ((Qb l0_5 x54_3).f3).length c301_3,.bool false,.slice none 0 0]) ?_ 4 _ rfl;(with_reducible repeat (first|apply zzf|apply zzg|apply zze));refine zzi (cs:=#[.int .i64 ((Qb l0_5 x54_3).f0),.int .i64 ((Qb l0_5 x54_3).f1),.bool ((Qb l0_5 x54_3).f2),.slice none 0 0,.bool false,.slice none 0 0]) ?_ 3 _ rfl;(with_reducible repeat (first|apply zzf|apply zzg|apply zze));refine zzi (cs:=#[.int .i64 ((Qb l0_5 x54_3).f0),.int .i64 ((Qb l0_5 x54_3).f1),.bool false,.slice none 0 0,.bool false,.slice none 0 0]) ?_ 2 _ rfl;(with_reducible repeat (first|apply zzf|apply zzg|apply zze));refine zzi (cs:=#[.int .i64 ((Qb l0_5 x54_3).f0),.int .i64 0,.bool false,.slice none 0 0,.bool false,.slice none 0 0]) ?_ 1 _ rfl;(with_reducible repeat (first|apply zzf|apply zzg|apply zze));refine zzi (cs:=#[.int .i64 0,.int .i64 0,.bool false,.slice none 0 0,.bool false,.slice none 0 0]) ?_ 0 _ rfl;(with_reducible repeat (first|apply zzf|apply zzg|apply zze));exact BK302.out⟩;have n2_:Aside0 (Below w.heap.size w ((((((w48.setCell ⟨gb302,0,none⟩ (.int .i64 ((Qb l0_5 x54_3).f0))).setCell ⟨gb302,1,none⟩ (.int .i64 ((Qb l0_5 x54_3).f1))).setCell ⟨gb302,2,none⟩ (.bool ((Qb l0_5 x54_3).f2))).setCell ⟨gb302,3,none⟩ (.slice A301_3 ((Qb l0_5 x54_3).f3).length c301_3)).setCell ⟨gb302,4,none⟩ (.bool ((Qb l0_5 x54_3).f4))).setCell ⟨gb302,5,none⟩ (.slice A301_5 ((Qb l0_5 x54_3).f5).length c301_5))):=⟨by repeat (first|(with_reducible first|exact HB.out|apply zza|apply zzb|apply zzc|refine zzd ?_ GE296.out|refine zzd ?_ GE302.out)|exact HB.out)⟩
                (try clear BK296)
                (try clear BK302)
                (try clear HB);generalize ((((((w48.setCell ⟨gb302,0,none⟩ (.int .i64 ((Qb l0_5 x54_3).f0))).setCell ⟨gb302,1,none⟩ (.int .i64 ((Qb l0_5 x54_3).f1))).setCell ⟨gb302,2,none⟩ (.bool ((Qb l0_5 x54_3).f2))).setCell ⟨gb302,3,none⟩ (.slice A301_3 ((Qb l0_5 x54_3).f3).length c301_3)).setCell ⟨gb302,4,none⟩ (.bool ((Qb l0_5 x54_3).f4))).setCell ⟨gb302,5,none⟩ (.slice A301_5 ((Qb l0_5 x54_3).f5).length c301_5))=w51 at n0_ n1_ n2_ ⊢;have BK296:=n0_;have BK302:=n1_;have HB:=n2_;clear n0_ n1_ n2_;have n0_:=zzm (zzg BK296.out);have n1_:=zzm (zzg BK302.out);have n2_:=zzm (zzc HB.out);clear BK296 BK302 HB;have BK296:=n0_;have BK302:=n1_;have HB:=n2_;clear n0_ n1_ n2_;have p304 : 0≤((ji38):Int):=zzt;have q304:(ji38) < (l0_5.length:Int):=zzt;obtain ⟨ad304,A304_3,c304_3,A304_5,c304_5,e304,hx304_0,hx304_1,hx304_2,hx304_3,hx304_4,hx304_5,hl304_3,hi304_3,hl304_5,hi304_5⟩:=Qy HR0_5.out (ji38) p304 q304;have hw304_5:=hx304_5;have hw304_4:=hx304_4;have hw304_3:=hx304_3;have hw304_2:=hx304_2;have hw304_1:=hx304_1;have hw304_0:=hx304_0;obtain rfl:ad301=ad304:=(by injection e304);replace hx304_0:=zzx HB.out hx304_0;replace hx304_1:=zzx HB.out hx304_1;replace hx304_2:=zzx HB.out hx304_2;replace hx304_3:=zzx HB.out hx304_3;replace hx304_4:=zzx HB.out hx304_4;replace hx304_5:=zzx HB.out hx304_5;have HR304_3:=zzm hi304_3;have HC304_3:=zzm hl304_3;clear hi304_3 hl304_3;have HR304_5:=zzm hi304_5;have HC304_5:=zzm hl304_5;clear hi304_5 hl304_5;replace p304:=eq_true p304;replace q304:=eq_true q304;refine start_ (n:=19) (S:=fun w'=>w'.cell? ⟨gb302,0,none⟩=some (.int .i64 ((Qb l0_5 x54_3).f0))∧w'.cell? ⟨gb302,1,none⟩=some (.int .i64 ((Qb l0_5 x54_3).f1))∧w'.cell? ⟨gb302,2,none⟩=some (.bool ((Qb l0_5 x54_3).f2))∧w'.cell? ⟨gb302,3,none⟩=some (.slice A301_3 ((Qb l0_5 x54_3).f3).length c301_3)∧w'.cell? ⟨gb302,4,none⟩=some (.bool ((Qb l0_5 x54_3).f4))∧w'.cell? ⟨gb302,5,none⟩=some (.slice A301_5 ((Qb l0_5 x54_3).f5).length c301_5)∧w'.cell? ⟨gb296,0,none⟩=some (.bool a0_0)∧w'.cell? ⟨gb296,1,none⟩=some (.bool a0_1)∧w'.cell? ⟨gb296,2,none⟩=some (.int .i64 a0_2)∧w'.cell? ⟨gb296,3,none⟩=some (.int .i64 a0_3)∧w'.cell? ⟨gb296,4,none⟩=some (.int .i64 a0_4)∧w'.cell? ⟨gb296,5,none⟩=some (.slice (some ad301) l0_5.length c0_5)∧w'.cell? (ad301.add (((ji38)).toNat * 6))=some (.int .i64 ((Qb l0_5 (ji38)).f0))∧w'.cell? ⟨(ad301.add (((ji38)).toNat * 6)).block,(ad301.add (((ji38)).toNat * 6)).off+1,none⟩=some (.int .i64 ((Qb l0_5 (ji38)).f1))∧w'.cell? ⟨(ad301.add (((ji38)).toNat * 6)).block,(ad301.add (((ji38)).toNat * 6)).off+2,none⟩=some (.bool ((Qb l0_5 (ji38)).f2))∧w'.cell? ⟨(ad301.add (((ji38)).toNat * 6)).block,(ad301.add (((ji38)).toNat * 6)).off+3,none⟩=some (.slice A304_3 ((Qb l0_5 (ji38)).f3).length c304_3)∧w'.cell? ⟨(ad301.add (((ji38)).toNat * 6)).block,(ad301.add (((ji38)).toNat * 6)).off+4,none⟩=some (.bool ((Qb l0_5 (ji38)).f4))∧w'.cell? ⟨(ad301.add (((ji38)).toNat * 6)).block,(ad301.add (((ji38)).toNat * 6)).off+5,none⟩=some (.slice A304_5 ((Qb l0_5 (ji38)).f5).length c304_5)) (ds:=[]) (zzB 19 0) (by kernel_rfl) rfl rfl ⟨(zzk BK302.out 0).trans rfl,(zzk BK302.out 1).trans rfl,(zzk BK302.out 2).trans rfl,(zzk BK302.out 3).trans rfl,(zzk BK302.out 4).trans rfl,(zzk BK302.out 5).trans rfl,(zzk BK296.out 0).trans rfl,(zzk BK296.out 1).trans rfl,(zzk BK296.out 2).trans rfl,(zzk BK296.out 3).trans rfl,(zzk BK296.out 4).trans rfl,(zzk BK296.out 5).trans rfl,(zzx HB.out hw304_0),(zzx HB.out hw304_1),(zzx HB.out hw304_2),(zzx HB.out hw304_3),(zzx HB.out hw304_4),(zzx HB.out hw304_5)⟩ (fun hHeld=>?_);refine with_tabW Qe.tab11 Qe.bits11 (fun HT_ HW_=>?_);generalize w51.drew=w52 at BK296 BK302 HB HR304_3 HR304_5 hx304_0 hx304_1 hx304_2 hx304_3 hx304_4 hx304_5 hHeld ⊢;refine take_ (i:=0) (N:=some 59) (v:=?_) (a':=?_) (zzB 19 1) rfl rfl (take_ofW HT_.out HW_.out (by kernel_rfl)) (fun _ _ _ h=>h) (Or.inl ⟨by rfl,?_⟩) hHeld ?_ ?_;rotate_left
                ·
                 rintro w' ⟨s0,s1,s2,s3,s4,s5,s6,s7,s8,s9,s10,s11,s12,s13,s14,s15,s16,s17⟩;go_simp;with_reducible rfl
                rotate_left
                ·
                 simp only [Act.put,zzq,zzr,zzs,i64_w,i32_w];rfl
                refine one_ (i:=1) (N:=some 60) (zzB 19 3) rfl rfl (one_of HT_.out (by kernel_rfl)) (by decide) (fun K hK=>?_);refine goes_ Try.func79 (by kernel_rfl) rfl #[.agg #[.int .i64 ((Qb l0_5 x54_3).f0),.int .i64 ((Qb l0_5 x54_3).f1),.bool ((Qb l0_5 x54_3).f2),.slice A301_3 ((Qb l0_5 x54_3).f3).length c301_3,.bool ((Qb l0_5 x54_3).f4),.slice A301_5 ((Qb l0_5 x54_3).f5).length c301_5]] (by rfl) rfl rfl zzM2 ?_;with_reducible refine (Q3.calls k3 ((Qb l0_5 x54_3).f0) ((Qb l0_5 x54_3).f1) ((Qb l0_5 x54_3).f2) _ _ ((Qb l0_5 x54_3).f3) ((Qb l0_5 x54_3).f4) _ _ ((Qb l0_5 x54_3).f5) true _ ?side1 ?side2 ?side3 ?side4 A35.out).mono ?_
                (case side1=>repeat (first|exact (Kd.C_below HR301_3.out HB.out)|(with_reducible refine Kd.C_alloc ?_ _)|(with_reducible refine Kd.C_drewN ?_ _)|(with_reducible refine Kd.C_drew ?_)))
                (case side2=>exact HC301_3.out)
                (case side3=>repeat (first|exact (Kd.C_below HR301_5.out HB.out)|(with_reducible refine Kd.C_alloc ?_ _)|(with_reducible refine Kd.C_drewN ?_ _)|(with_reducible refine Kd.C_drew ?_)))
                (case side4=>exact HC301_5.out);rintro e w53 ⟨rfl,hb⟩;refine ⟨_,rfl,?_⟩;have n0_:=zzm (zzh (g:=gb296) (o:=.cells #[.bool a0_0,.bool a0_1,.int .i64 a0_2,.int .i64 a0_3,.int .i64 a0_4,.slice (some ad301) l0_5.length c0_5] 34 (0,0)) (zzE BK296.out) hb);have n1_:=zzm (zzh (g:=gb302) (o:=.cells #[.int .i64 ((Qb l0_5 x54_3).f0),.int .i64 ((Qb l0_5 x54_3).f1),.bool ((Qb l0_5 x54_3).f2),.slice A301_3 ((Qb l0_5 x54_3).f3).length c301_3,.bool ((Qb l0_5 x54_3).f4),.slice A301_5 ((Qb l0_5 x54_3).f5).length c301_5] 30 (0,0)) (zzE BK302.out) hb);have n2_:=zzm (zzp zzh2 hb);clear BK296 BK302 HB;have BK296:=n0_;have BK302:=n1_;have HB:=n2_;clear n0_ n1_ n2_
                (try clear hb)
                (try clear hb2)
                (try clear hk)
                (try clear hi);refine hK.out _ _ ⟨(zzk BK302.out 0).trans rfl,(zzk BK302.out 1).trans rfl,(zzk BK302.out 2).trans rfl,(zzk BK302.out 3).trans rfl,(zzk BK302.out 4).trans rfl,(zzk BK302.out 5).trans rfl,(zzk BK296.out 0).trans rfl,(zzk BK296.out 1).trans rfl,(zzk BK296.out 2).trans rfl,(zzk BK296.out 3).trans rfl,(zzk BK296.out 4).trans rfl,(zzk BK296.out 5).trans rfl,(zzx HB.out hw304_0),(zzx HB.out hw304_1),(zzx HB.out hw304_2),(zzx HB.out hw304_3),(zzx HB.out hw304_4),(zzx HB.out hw304_5)⟩ (fun hHeld=>?_);clear hK K;refine norm_ (a':=?_) ?_ ?_;rotate_left
                ·
                 show Act.put _ (some 60) _ = _;simp only [Act.put,zzq,zzr,zzs,i64_w,i32_w];rfl
                refine pure_ (i:=2) (N:=some 61) (v:=?_) (a':=?_) (zzB 19 7) rfl rfl (zzA2 HT_.out) (fun _ _ _ h=>h) (Or.inl ⟨by rfl,?_⟩) ?_ ?_;rotate_left
                ·
                 intro w';go_simp;with_reducible rfl
                rotate_left
                ·
                 simp only [Act.put,zzq,zzr,zzs,i64_w,i32_w];rfl
                refine pure_ (i:=3) (N:=some 62) (v:=?_) (a':=?_) (zzB 19 15) rfl rfl (zzA2 HT_.out) (fun _ _ _ h=>h) (Or.inl ⟨by rfl,?_⟩) ?_ ?_;rotate_left
                ·
                 intro w';go_simp;with_reducible rfl
                rotate_left
                ·
                 simp only [Act.put,zzq,zzr,zzs,i64_w,i32_w];rfl
                refine pure_ (i:=4) (N:=some 63) (v:=?_) (a':=?_) (zzB 19 31) rfl rfl (zzA2 HT_.out) (fun _ _ _ h=>h) (Or.inl ⟨by rfl,?_⟩) ?_ ?_;rotate_left
                ·
                 intro w';go_simp;with_reducible rfl
                rotate_left
                ·
                 simp only [Act.put,zzq,zzr,zzs,i64_w,i32_w];rfl
                refine pure_ (i:=5) (N:=some 64) (v:=?_) (a':=?_) (zzB 19 63) rfl rfl (zzA2 HT_.out) (fun _ _ _ h=>h) (Or.inl ⟨by rfl,?_⟩) ?_ ?_;rotate_left
                ·
                 intro w';go_simp;with_reducible rfl
                rotate_left
                ·
                 simp only [Act.put,zzq,zzr,zzs,i64_w,i32_w];rfl
                refine pure_ (i:=6) (N:=some 65) (v:=?_) (a':=?_) (zzB 19 127) rfl rfl (zzA2 HT_.out) (fun _ _ _ h=>h) (Or.inl ⟨by rfl,?_⟩) ?_ ?_;rotate_left
                ·
                 intro w';go_simp;with_reducible rfl
                rotate_left
                ·
                 simp only [Act.put,zzq,zzr,zzs,i64_w,i32_w];rfl
                refine pure_ (i:=7) (N:=some 66) (v:=?_) (a':=?_) (zzB 19 255) rfl rfl (zzA2 HT_.out) (fun _ _ _ h=>h) (Or.inl ⟨by rfl,?_⟩) ?_ ?_;rotate_left
                ·
                 intro w';go_simp;with_reducible rfl
                rotate_left
                ·
                 simp only [Act.put,zzq,zzr,zzs,i64_w,i32_w];rfl
                refine pure_ (i:=9) (N:=some 68) (v:=?_) (a':=?_) (zzB 19 767) rfl rfl (zzA2 HT_.out) (fun _ _ _ h=>h) (Or.inl ⟨by rfl,?_⟩) ?_ ?_;rotate_left
                ·
                 intro w';go_simp;with_reducible rfl
                rotate_left
                ·
                 simp only [Act.put,zzq,zzr,zzs,i64_w,i32_w];rfl
                refine pure_ (i:=10) (N:=some 69) (v:=?_) (a':=?_) (zzB 19 1791) rfl rfl (zzA2 HT_.out) (fun _ _ _ h=>h) (Or.inl ⟨by rfl,?_⟩) ?_ ?_;rotate_left
                ·
                 intro w';go_simp;with_reducible rfl
                rotate_left
                ·
                 simp only [Act.put,zzq,zzr,zzs,i64_w,i32_w];rfl
                refine pure_ (i:=14) (N:=some 73) (v:=?_) (a':=?_) (zzB 19 18175) rfl rfl (zzA2 HT_.out) (fun _ _ _ h=>h) (Or.inl ⟨by rfl,?_⟩) ?_ ?_;rotate_left
                ·
                 intro w';go_simp;with_reducible rfl
                rotate_left
                ·
                 simp only [Act.put,zzq,zzr,zzs,i64_w,i32_w];rfl
                refine take_ (i:=8) (N:=some 67) (v:=?_) (a':=?_) (zzB 19 18431) rfl rfl (take_ofW HT_.out HW_.out (by kernel_rfl)) (fun _ _ _ h=>h) (Or.inl ⟨by rfl,?_⟩) hHeld ?_ ?_;rotate_left
                ·
                 rintro w' ⟨s0,s1,s2,s3,s4,s5,s6,s7,s8,s9,s10,s11,s12,s13,s14,s15,s16,s17⟩;go_simp;with_reducible rfl
                rotate_left
                ·
                 simp only [Act.put,zzq,zzr,zzs,i64_w,i32_w];rfl
                refine pure_ (i:=11) (N:=some 70) (v:=?_) (a':=?_) (zzB 19 20479) rfl rfl (zzA2 HT_.out) (fun _ _ _ h=>h) (Or.inl ⟨by rfl,?_⟩) ?_ ?_;rotate_left
                ·
                 intro w';go_simp;with_reducible rfl
                rotate_left
                ·
                 simp only [Act.put,zzq,zzr,zzs,i64_w,i32_w];rfl
                refine pure_ (i:=12) (N:=some 71) (v:=?_) (a':=?_) (zzB 19 24575) rfl rfl (zzA2 HT_.out) (fun _ _ _ h=>h) (Or.inl ⟨by rfl,?_⟩) ?_ ?_;rotate_left
                ·
                 intro w';go_simp;with_reducible rfl
                rotate_left
                ·
                 simp only [Act.put,zzq,zzr,zzs,i64_w,i32_w];rfl
                refine take_ (i:=13) (N:=some 72) (v:=?_) (a':=?_) (zzB 19 32767) rfl rfl (take_ofW HT_.out HW_.out (by kernel_rfl)) (fun _ _ _ h=>h) (Or.inl ⟨by rfl,?_⟩) hHeld ?_ ?_;rotate_left
                ·
                 rintro w' ⟨s0,s1,s2,s3,s4,s5,s6,s7,s8,s9,s10,s11,s12,s13,s14,s15,s16,s17⟩;go_simp;with_reducible rfl
                rotate_left
                ·
                 simp only [Act.put,zzq,zzr,zzs,i64_w,i32_w];rfl
                refine take_ (i:=15) (N:=some 74) (v:=?_) (a':=?_) (zzB 19 65535) rfl rfl (take_ofW HT_.out HW_.out (by kernel_rfl)) (fun _ _ _ h=>h) (Or.inl ⟨by rfl,?_⟩) hHeld ?_ ?_;rotate_left
                ·
                 rintro w' ⟨s0,s1,s2,s3,s4,s5,s6,s7,s8,s9,s10,s11,s12,s13,s14,s15,s16,s17⟩;go_simp;with_reducible rfl
                rotate_left
                ·
                 simp only [Act.put,zzq,zzr,zzs,i64_w,i32_w];rfl
                refine pure_ (i:=16) (N:=some 75) (v:=?_) (a':=?_) (zzB 19 131071) rfl rfl (zzA2 HT_.out) (fun _ _ _ h=>h) (Or.inl ⟨by rfl,?_⟩) ?_ ?_;rotate_left
                ·
                 intro w';go_simp;with_reducible rfl
                rotate_left
                ·
                 simp only [Act.put,zzq,zzr,zzs,i64_w,i32_w];rfl
                refine pure_ (i:=17) (N:=some 76) (v:=?_) (a':=?_) (zzB 19 262143) rfl rfl (zzA2 HT_.out) (fun _ _ _ h=>h) (Or.inl ⟨by rfl,?_⟩) ?_ ?_;rotate_left
                ·
                 intro w';go_simp;with_reducible rfl
                rotate_left
                ·
                 simp only [Act.put,zzq,zzr,zzs,i64_w,i32_w];rfl
                refine pure_ (i:=18) (N:=some 77) (v:=?_) (a':=?_) (zzB 19 524287) rfl rfl (zzA2 HT_.out) (fun _ _ _ h=>h) (Or.inl ⟨by rfl,?_⟩) ?_ ?_;rotate_left
                ·
                 intro w';go_simp;with_reducible rfl
                rotate_left
                ·
                 simp only [Act.put,zzq,zzr,zzs,i64_w,i32_w];rfl
                refine done_ (done_of HT_.out (by kernel_rfl)) ?_;try go_wp2
                go_roundg k3
                case measure=>have:=HJ1.out;have:=HJ22.out;have:=HK3.out;omega
                case rel=>exact ⟨(wrap64 (x54_3+1)),(by first|rfl|(simp;done)|(simp [*];done)),H',⟨by have:=HJ1.out;have:=HJ22.out;have:=HK3.out;omega⟩,⟨by (with_reducible repeat (first|apply zzf|apply zzg|apply zze));exact BK296.out⟩,⟨by repeat (first|(with_reducible first|exact HB.out|apply zza|apply zzb|apply zzc|refine zzd ?_ GE296.out|refine zzd ?_ GE302.out)|exact HB.out)⟩⟩
              ·
               rw [if_neg c40] at H;exact absurd H (by simp)
             ·
              rw [if_neg c39] at H;exact absurd H (by simp)
            ·
             rw [if_neg c37] at H;have c37b0:decide (0 < x54_3)=false:=decide_eq_false c37;clear c37;have H':=zzm H;clear H;have p301 : 0≤(x54_3:Int):=zzt;have q301:x54_3 < (l0_5.length:Int):=zzt;obtain ⟨ad301,A301_3,c301_3,A301_5,c301_5,e301,hx301_0,hx301_1,hx301_2,hx301_3,hx301_4,hx301_5,hl301_3,hi301_3,hl301_5,hi301_5⟩:=Qy HR0_5.out x54_3 p301 q301;cases e301;replace hx301_0:=zzx HB.out hx301_0;replace hx301_1:=zzx HB.out hx301_1;replace hx301_2:=zzx HB.out hx301_2;replace hx301_3:=zzx HB.out hx301_3;replace hx301_4:=zzx HB.out hx301_4;replace hx301_5:=zzx HB.out hx301_5;have HR301_3:=zzm hi301_3;have HC301_3:=zzm hl301_3;clear hi301_3 hl301_3;have HR301_5:=zzm hi301_5;have HC301_5:=zzm hl301_5;clear hi301_5 hl301_5;replace p301:=eq_true p301;replace q301:=eq_true q301;try go_wp2_with (first|((with_reducible refine gate_dst (N:=4) rfl ?_);(try (refine gate_guard (by rfl) ?_;dsimp only));refine box_event ?hg (N:=4) ?hd (cs:=#[.int .i64 0,.int .i64 0,.bool false,.slice none 0 0,.bool false,.slice none 0 0]) (t:=30) ?hr ?_;(case hd=>rfl);(case hg=>rfl);(case hr=>first|(go_simp;done)|(go_simp;rfl));intro gb302 hg w54 hbox hb;have n0_:=zzm (zzh (g:=gb296) (o:=.cells #[.bool a0_0,.bool a0_1,.int .i64 a0_2,.int .i64 a0_3,.int .i64 a0_4,.slice (some ad301) l0_5.length c0_5] 34 (0,0)) (zzE BK296.out) hb);have n1_:=zzm (zzp zzh2 hb);have n2_:=zzm (hbox);have n3_:=zzm ((by rw [hg];exact (zzo zzh2):w.heap.size≤gb302));have n4_:=zzm ((by rw [hg];exact (zzo zzh2):w.heap.size≤gb302));have n5_:=zzm ((by rw [hg];exact Nat.ne_of_lt (blk_lt (g:=gb296) (o:=.cells #[.bool a0_0,.bool a0_1,.int .i64 a0_2,.int .i64 a0_3,.int .i64 a0_4,.slice (some ad301) l0_5.length c0_5] 34 (0,0)) (zzE BK296.out)):gb296≠gb302));have n6_:=zzm ((by rw [hg];exact Nat.ne_of_gt (blk_lt (g:=gb296) (o:=.cells #[.bool a0_0,.bool a0_1,.int .i64 a0_2,.int .i64 a0_3,.int .i64 a0_4,.slice (some ad301) l0_5.length c0_5] 34 (0,0)) (zzE BK296.out)):gb302≠gb296));clear BK296 HB;have BK296:=n0_;have HB:=n1_;have BK302:=n2_;have GW302:=n3_;have GE302:=n4_;have NB296_302:=n5_;have NB302_296:=n6_;clear n0_ n1_ n2_ n3_ n4_ n5_ n6_ hb hbox hg;have hnb55:=NB302_296.out;have hnc55:=NB296_302.out;obtain ⟨hcz56_0,hcz56_1,hcz56_2,hcz56_3,hcz56_4,hcz56_5,hfz56_0,hfz56_1,hfz56_2,hfz56_3,hfz56_4,hfz56_5⟩:=zzc6 BK302.out))
             have n0_:Aside0 (((((((w54.setCell ⟨gb302,0,none⟩ (.int .i64 ((Qb l0_5 x54_3).f0))).setCell ⟨gb302,1,none⟩ (.int .i64 ((Qb l0_5 x54_3).f1))).setCell ⟨gb302,2,none⟩ (.bool ((Qb l0_5 x54_3).f2))).setCell ⟨gb302,3,none⟩ (.slice A301_3 ((Qb l0_5 x54_3).f3).length c301_3)).setCell ⟨gb302,4,none⟩ (.bool ((Qb l0_5 x54_3).f4))).setCell ⟨gb302,5,none⟩ (.slice A301_5 ((Qb l0_5 x54_3).f5).length c301_5)).heap[gb296]? = some (.cells #[.bool a0_0,.bool a0_1,.int .i64 a0_2,.int .i64 a0_3,.int .i64 a0_4,.slice (some ad301) l0_5.length c0_5] 34 (0,0))):=⟨by (with_reducible repeat (first|apply zzf|apply zzg|apply zze));refine zzj ?_ NB296_302.out _;(with_reducible repeat (first|apply zzf|apply zzg|apply zze));refine zzj ?_ NB296_302.out _;(with_reducible repeat (first|apply zzf|apply zzg|apply zze));refine zzj ?_ NB296_302.out _;(with_reducible repeat (first|apply zzf|apply zzg|apply zze));refine zzj ?_ NB296_302.out _;(with_reducible repeat (first|apply zzf|apply zzg|apply zze));refine zzj ?_ NB296_302.out _;(with_reducible repeat (first|apply zzf|apply zzg|apply zze));refine zzj ?_ NB296_302.out _;(with_reducible repeat (first|apply zzf|apply zzg|apply zze));exact BK296.out⟩;have n1_:Aside0 (((((((w54.setCell ⟨gb302,0,none⟩ (.int .i64 ((Qb l0_5 x54_3).f0))).setCell ⟨gb302,1,none⟩ (.int .i64 ((Qb l0_5 x54_3).f1))).setCell ⟨gb302,2,none⟩ (.bool ((Qb l0_5 x54_3).f2))).setCell ⟨gb302,3,none⟩ (.slice A301_3 ((Qb l0_5 x54_3).f3).length c301_3)).setCell ⟨gb302,4,none⟩ (.bool ((Qb l0_5 x54_3).f4))).setCell ⟨gb302,5,none⟩ (.slice A301_5 ((Qb l0_5 x54_3).f5).length c301_5)).heap[gb302]? = some (.cells #[.int .i64 ((Qb l0_5 x54_3).f0),.int .i64 ((Qb l0_5 x54_3).f1),.bool ((Qb l0_5 x54_3).f2),.slice A301_3 ((Qb l0_5 x54_3).f3).length c301_3,.bool ((Qb l0_5 x54_3).f4),.slice A301_5 ((Qb l0_5 x54_3).f5).length c301_5] 30 (0,0))):=⟨by (with_reducible repeat (first|apply zzf|apply zzg|apply zze));refine zzi (cs:=#[.int .i64 ((Qb l0_5 x54_3).f0),.int .i64 ((Qb l0_5 x54_3).f1),.bool ((Qb l0_5 x54_3).f2),.slice A301_3 ((Qb l0_5 x54_3).f3).length c301_3,.bool ((Qb l0_5 x54_3).f4),.slice none 0 0]) ?_ 5 _ rfl;(with_reducible repeat (first|apply zzf|apply zzg|apply zze));refine zzi (cs:=#[.int .i64 ((Qb l0_5 x54_3).f0),.int .i64 ((Qb l0_5 x54_3).f1),.bool ((Qb l0_5 x54_3).f2),.slice A301_3 ((Qb l0_5 x54_3).f3).length c301_3,.bool false,.slice none 0 0]) ?_ 4 _ rfl;(with_reducible repeat (first|apply zzf|apply zzg|apply zze));refine zzi (cs:=#[.int .i64 ((Qb l0_5 x54_3).f0),.int .i64 ((Qb l0_5 x54_3).f1),.bool ((Qb l0_5 x54_3).f2),.slice none 0 0,.bool false,.slice none 0 0]) ?_ 3 _ rfl;(with_reducible repeat (first|apply zzf|apply zzg|apply zze));refine zzi (cs:=#[.int .i64 ((Qb l0_5 x54_3).f0),.int .i64 ((Qb l0_5 x54_3).f1),.bool false,.slice none 0 0,.bool false,.slice none 0 0]) ?_ 2 _ rfl;(with_reducible repeat (first|apply zzf|apply zzg|apply zze));refine zzi (cs:=#[.int .i64 ((Qb l0_5 x54_3).f0),.int .i64 0,.bool false,.slice none 0 0,.bool false,.slice none 0 0]) ?_ 1 _ rfl;(with_reducible repeat (first|apply zzf|apply zzg|apply zze));refine zzi (cs:=#[.int .i64 0,.int .i64 0,.bool false,.slice none 0 0,.bool false,.slice none 0 0]) ?_ 0 _ rfl;(with_reducible repeat (first|apply zzf|apply zzg|apply zze));exact BK302.out⟩;have n2_:Aside0 (Below w.heap.size w ((((((w54.setCell ⟨gb302,0,none⟩ (.int .i64 ((Qb l0_5 x54_3).f0))).setCell ⟨gb302,1,none⟩ (.int .i64 ((Qb l0_5 x54_3).f1))).setCell ⟨gb302,2,none⟩ (.bool ((Qb l0_5 x54_3).f2))).setCell ⟨gb302,3,none⟩ (.slice A301_3 ((Qb l0_5 x54_3).f3).length c301_3)).setCell ⟨gb302,4,none⟩ (.bool ((Qb l0_5 x54_3).f4))).setCell ⟨gb302,5,none⟩ (.slice A301_5 ((Qb l0_5 x54_3).f5).length c301_5))):=⟨by repeat (first|(with_reducible first|exact HB.out|apply zza|apply zzb|apply zzc|refine zzd ?_ GE296.out|refine zzd ?_ GE302.out)|exact HB.out)⟩
             (try clear BK296)
             (try clear BK302)
             (try clear HB);generalize ((((((w54.setCell ⟨gb302,0,none⟩ (.int .i64 ((Qb l0_5 x54_3).f0))).setCell ⟨gb302,1,none⟩ (.int .i64 ((Qb l0_5 x54_3).f1))).setCell ⟨gb302,2,none⟩ (.bool ((Qb l0_5 x54_3).f2))).setCell ⟨gb302,3,none⟩ (.slice A301_3 ((Qb l0_5 x54_3).f3).length c301_3)).setCell ⟨gb302,4,none⟩ (.bool ((Qb l0_5 x54_3).f4))).setCell ⟨gb302,5,none⟩ (.slice A301_5 ((Qb l0_5 x54_3).f5).length c301_5))=w57 at n0_ n1_ n2_ ⊢;have BK296:=n0_;have BK302:=n1_;have HB:=n2_;clear n0_ n1_ n2_;have n0_:=zzm (zzg BK296.out);have n1_:=zzm (zzg BK302.out);have n2_:=zzm (zzc HB.out);clear BK296 BK302 HB;have BK296:=n0_;have BK302:=n1_;have HB:=n2_;clear n0_ n1_ n2_;refine start_ (n:=19) (S:=fun w'=>w'.cell? ⟨gb302,0,none⟩=some (.int .i64 ((Qb l0_5 x54_3).f0))∧w'.cell? ⟨gb302,1,none⟩=some (.int .i64 ((Qb l0_5 x54_3).f1))∧w'.cell? ⟨gb302,2,none⟩=some (.bool ((Qb l0_5 x54_3).f2))∧w'.cell? ⟨gb302,3,none⟩=some (.slice A301_3 ((Qb l0_5 x54_3).f3).length c301_3)∧w'.cell? ⟨gb302,4,none⟩=some (.bool ((Qb l0_5 x54_3).f4))∧w'.cell? ⟨gb302,5,none⟩=some (.slice A301_5 ((Qb l0_5 x54_3).f5).length c301_5)) (ds:=[]) (zzB 19 0) (by kernel_rfl) rfl rfl ⟨(zzk BK302.out 0).trans rfl,(zzk BK302.out 1).trans rfl,(zzk BK302.out 2).trans rfl,(zzk BK302.out 3).trans rfl,(zzk BK302.out 4).trans rfl,(zzk BK302.out 5).trans rfl⟩ (fun hHeld=>?_);refine with_tabW Qe.tab11 Qe.bits11 (fun HT_ HW_=>?_);generalize w57.drew=w58 at BK296 BK302 HB hHeld ⊢;refine take_ (i:=0) (N:=some 59) (v:=?_) (a':=?_) (zzB 19 1) rfl rfl (take_ofW HT_.out HW_.out (by kernel_rfl)) (fun _ _ _ h=>h) (Or.inl ⟨by rfl,?_⟩) hHeld ?_ ?_;rotate_left
             ·
              rintro w' ⟨s0,s1,s2,s3,s4,s5⟩;go_simp;with_reducible rfl
             rotate_left
             ·
              simp only [Act.put,zzq,zzr,zzs,i64_w,i32_w];rfl
             refine one_ (i:=1) (N:=some 60) (zzB 19 3) rfl rfl (one_of HT_.out (by kernel_rfl)) (by decide) (fun K hK=>?_);refine goes_ Try.func79 (by kernel_rfl) rfl #[.agg #[.int .i64 ((Qb l0_5 x54_3).f0),.int .i64 ((Qb l0_5 x54_3).f1),.bool ((Qb l0_5 x54_3).f2),.slice A301_3 ((Qb l0_5 x54_3).f3).length c301_3,.bool ((Qb l0_5 x54_3).f4),.slice A301_5 ((Qb l0_5 x54_3).f5).length c301_5]] (by rfl) rfl rfl zzM2 ?_;with_reducible refine (Q3.calls k3 ((Qb l0_5 x54_3).f0) ((Qb l0_5 x54_3).f1) ((Qb l0_5 x54_3).f2) _ _ ((Qb l0_5 x54_3).f3) ((Qb l0_5 x54_3).f4) _ _ ((Qb l0_5 x54_3).f5) true _ ?side1 ?side2 ?side3 ?side4 A35.out).mono ?_
             (case side1=>repeat (first|exact (Kd.C_below HR301_3.out HB.out)|(with_reducible refine Kd.C_alloc ?_ _)|(with_reducible refine Kd.C_drewN ?_ _)|(with_reducible refine Kd.C_drew ?_)))
             (case side2=>exact HC301_3.out)
             (case side3=>repeat (first|exact (Kd.C_below HR301_5.out HB.out)|(with_reducible refine Kd.C_alloc ?_ _)|(with_reducible refine Kd.C_drewN ?_ _)|(with_reducible refine Kd.C_drew ?_)))
             (case side4=>exact HC301_5.out);rintro e w59 ⟨rfl,hb⟩;refine ⟨_,rfl,?_⟩;have n0_:=zzm (zzh (g:=gb296) (o:=.cells #[.bool a0_0,.bool a0_1,.int .i64 a0_2,.int .i64 a0_3,.int .i64 a0_4,.slice (some ad301) l0_5.length c0_5] 34 (0,0)) (zzE BK296.out) hb);have n1_:=zzm (zzh (g:=gb302) (o:=.cells #[.int .i64 ((Qb l0_5 x54_3).f0),.int .i64 ((Qb l0_5 x54_3).f1),.bool ((Qb l0_5 x54_3).f2),.slice A301_3 ((Qb l0_5 x54_3).f3).length c301_3,.bool ((Qb l0_5 x54_3).f4),.slice A301_5 ((Qb l0_5 x54_3).f5).length c301_5] 30 (0,0)) (zzE BK302.out) hb);have n2_:=zzm (zzp zzh2 hb);clear BK296 BK302 HB;have BK296:=n0_;have BK302:=n1_;have HB:=n2_;clear n0_ n1_ n2_
             (try clear hb)
             (try clear hb2)
             (try clear hk)
             (try clear hi);refine hK.out _ _ ⟨(zzk BK302.out 0).trans rfl,(zzk BK302.out 1).trans rfl,(zzk BK302.out 2).trans rfl,(zzk BK302.out 3).trans rfl,(zzk BK302.out 4).trans rfl,(zzk BK302.out 5).trans rfl⟩ (fun hHeld=>?_);clear hK K;refine norm_ (a':=?_) ?_ ?_;rotate_left
             ·
              show Act.put _ (some 60) _ = _;simp only [Act.put,zzq,zzr,zzs,i64_w,i32_w];rfl
             refine pure_ (i:=2) (N:=some 61) (v:=?_) (a':=?_) (zzB 19 7) rfl rfl (zzA2 HT_.out) (fun _ _ _ h=>h) (Or.inl ⟨by rfl,?_⟩) ?_ ?_;rotate_left
             ·
              intro w';go_simp;with_reducible rfl
             rotate_left
             ·
              simp only [Act.put,zzq,zzr,zzs,i64_w,i32_w];rfl
             refine pure_ (i:=3) (N:=some 62) (v:=?_) (a':=?_) (zzB 19 15) rfl rfl (zzA2 HT_.out) (fun _ _ _ h=>h) (Or.inl ⟨by rfl,?_⟩) ?_ ?_;rotate_left
             ·
              intro w';go_simp;with_reducible rfl
             rotate_left
             ·
              simp only [Act.put,zzq,zzr,zzs,i64_w,i32_w];rfl
             refine pure_ (i:=4) (N:=some 63) (v:=?_) (a':=?_) (zzB 19 31) rfl rfl (zzA2 HT_.out) (fun _ _ _ h=>h) (Or.inl ⟨by rfl,?_⟩) ?_ ?_;rotate_left
             ·
              intro w';go_simp;with_reducible rfl
             rotate_left
             ·
              simp only [Act.put,zzq,zzr,zzs,i64_w,i32_w];rfl
             refine pure_ (i:=5) (N:=some 64) (v:=?_) (a':=?_) (zzB 19 63) rfl rfl (zzA2 HT_.out) (fun _ _ _ h=>h) (Or.inl ⟨by rfl,?_⟩) ?_ ?_;rotate_left
             ·
              intro w';go_simp;with_reducible rfl
             rotate_left
             ·
              simp only [Act.put,zzq,zzr,zzs,i64_w,i32_w];rfl
             refine pure_ (i:=6) (N:=some 65) (v:=?_) (a':=?_) (zzB 19 127) rfl rfl (zzA2 HT_.out) (fun _ _ _ h=>h) (Or.inl ⟨by rfl,?_⟩) ?_ ?_;rotate_left
             ·
              intro w';go_simp;with_reducible rfl
             rotate_left
             ·
              simp only [Act.put,zzq,zzr,zzs,i64_w,i32_w];rfl
             refine pure_ (i:=7) (N:=some 66) (v:=undef) (a':=?_) (zzB 19 255) rfl rfl (zzA2 HT_.out) (fun _ _ _ h=>h) (Or.inr ⟨by rfl,rfl⟩) ?_ ?_;rotate_left
             ·
              simp only [Act.put,zzq,zzr,zzs,i64_w,i32_w];rfl
             refine pure_ (i:=8) (N:=some 67) (v:=undef) (a':=?_) (zzB 19 511) rfl rfl (zzA2 HT_.out) (fun _ _ _ h=>h) (Or.inr ⟨by rfl,rfl⟩) ?_ ?_;rotate_left
             ·
              simp only [Act.put,zzq,zzr,zzs,i64_w,i32_w];rfl
             refine pure_ (i:=9) (N:=some 68) (v:=undef) (a':=?_) (zzB 19 1023) rfl rfl (zzA2 HT_.out) (fun _ _ _ h=>h) (Or.inr ⟨by rfl,rfl⟩) ?_ ?_;rotate_left
             ·
              simp only [Act.put,zzq,zzr,zzs,i64_w,i32_w];rfl
             refine pure_ (i:=10) (N:=some 69) (v:=undef) (a':=?_) (zzB 19 2047) rfl rfl (zzA2 HT_.out) (fun _ _ _ h=>h) (Or.inr ⟨by rfl,rfl⟩) ?_ ?_;rotate_left
             ·
              simp only [Act.put,zzq,zzr,zzs,i64_w,i32_w];rfl
             refine pure_ (i:=11) (N:=some 70) (v:=undef) (a':=?_) (zzB 19 4095) rfl rfl (zzA2 HT_.out) (fun _ _ _ h=>h) (Or.inr ⟨by rfl,rfl⟩) ?_ ?_;rotate_left
             ·
              simp only [Act.put,zzq,zzr,zzs,i64_w,i32_w];rfl
             refine pure_ (i:=12) (N:=some 71) (v:=undef) (a':=?_) (zzB 19 8191) rfl rfl (zzA2 HT_.out) (fun _ _ _ h=>h) (Or.inr ⟨by rfl,rfl⟩) ?_ ?_;rotate_left
             ·
              simp only [Act.put,zzq,zzr,zzs,i64_w,i32_w];rfl
             refine pure_ (i:=13) (N:=some 72) (v:=undef) (a':=?_) (zzB 19 16383) rfl rfl (zzA2 HT_.out) (fun _ _ _ h=>h) (Or.inr ⟨by rfl,rfl⟩) ?_ ?_;rotate_left
             ·
              simp only [Act.put,zzq,zzr,zzs,i64_w,i32_w];rfl
             refine pure_ (i:=14) (N:=some 73) (v:=undef) (a':=?_) (zzB 19 32767) rfl rfl (zzA2 HT_.out) (fun _ _ _ h=>h) (Or.inr ⟨by rfl,rfl⟩) ?_ ?_;rotate_left
             ·
              simp only [Act.put,zzq,zzr,zzs,i64_w,i32_w];rfl
             refine pure_ (i:=15) (N:=some 74) (v:=undef) (a':=?_) (zzB 19 65535) rfl rfl (zzA2 HT_.out) (fun _ _ _ h=>h) (Or.inr ⟨by rfl,rfl⟩) ?_ ?_;rotate_left
             ·
              simp only [Act.put,zzq,zzr,zzs,i64_w,i32_w];rfl
             refine pure_ (i:=16) (N:=some 75) (v:=undef) (a':=?_) (zzB 19 131071) rfl rfl (zzA2 HT_.out) (fun _ _ _ h=>h) (Or.inr ⟨by rfl,rfl⟩) ?_ ?_;rotate_left
             ·
              simp only [Act.put,zzq,zzr,zzs,i64_w,i32_w];rfl
             refine pure_ (i:=17) (N:=some 76) (v:=?_) (a':=?_) (zzB 19 262143) rfl rfl (zzA2 HT_.out) (fun _ _ _ h=>h) (Or.inl ⟨by rfl,?_⟩) ?_ ?_;rotate_left
             ·
              intro w';go_simp;with_reducible rfl
             rotate_left
             ·
              simp only [Act.put,zzq,zzr,zzs,i64_w,i32_w];rfl
             refine pure_ (i:=18) (N:=some 77) (v:=?_) (a':=?_) (zzB 19 524287) rfl rfl (zzA2 HT_.out) (fun _ _ _ h=>h) (Or.inl ⟨by rfl,?_⟩) ?_ ?_;rotate_left
             ·
              intro w';go_simp;with_reducible rfl
             rotate_left
             ·
              simp only [Act.put,zzq,zzr,zzs,i64_w,i32_w];rfl
             refine done_ (done_of HT_.out (by kernel_rfl)) ?_;try go_wp2
             go_roundg k3
             case measure=>have:=HJ1.out;have:=HJ22.out;have:=HK3.out;omega
             case rel=>exact ⟨(wrap64 (x54_3+1)),(by first|rfl|(simp;done)|(simp [*];done)),H',⟨by have:=HJ1.out;have:=HJ22.out;have:=HK3.out;omega⟩,⟨by (with_reducible repeat (first|apply zzf|apply zzg|apply zze));exact BK296.out⟩,⟨by repeat (first|(with_reducible first|exact HB.out|apply zza|apply zzb|apply zzc|refine zzd ?_ GE296.out|refine zzd ?_ GE302.out)|exact HB.out)⟩⟩
           ·
            replace c36:=Bool.eq_false_iff.mpr c36;subst c36;have H1:(some false)=some r:=by rw [if_neg (show ¬ (false=true) by decide)] at H;exact H
            clear H;have H:=H1;clear H1;obtain rfl:=Option.some.inj H;have p301 : 0≤(x54_3:Int):=zzt;have q301:x54_3 < (l0_5.length:Int):=zzt;obtain ⟨ad301,A301_3,c301_3,A301_5,c301_5,e301,hx301_0,hx301_1,hx301_2,hx301_3,hx301_4,hx301_5,hl301_3,hi301_3,hl301_5,hi301_5⟩:=Qy HR0_5.out x54_3 p301 q301;cases e301;replace hx301_0:=zzx HB.out hx301_0;replace hx301_1:=zzx HB.out hx301_1;replace hx301_2:=zzx HB.out hx301_2;replace hx301_3:=zzx HB.out hx301_3;replace hx301_4:=zzx HB.out hx301_4;replace hx301_5:=zzx HB.out hx301_5;have HR301_3:=zzm hi301_3;have HC301_3:=zzm hl301_3;clear hi301_3 hl301_3;have HR301_5:=zzm hi301_5;have HC301_5:=zzm hl301_5;clear hi301_5 hl301_5;replace p301:=eq_true p301;replace q301:=eq_true q301;try go_wp2_with (first|((with_reducible refine gate_dst (N:=4) rfl ?_);(try (refine gate_guard (by rfl) ?_;dsimp only));refine box_event ?hg (N:=4) ?hd (cs:=#[.int .i64 0,.int .i64 0,.bool false,.slice none 0 0,.bool false,.slice none 0 0]) (t:=30) ?hr ?_;(case hd=>rfl);(case hg=>rfl);(case hr=>first|(go_simp;done)|(go_simp;rfl));intro gb302 hg w60 hbox hb;have n0_:=zzm (zzh (g:=gb296) (o:=.cells #[.bool a0_0,.bool a0_1,.int .i64 a0_2,.int .i64 a0_3,.int .i64 a0_4,.slice (some ad301) l0_5.length c0_5] 34 (0,0)) (zzE BK296.out) hb);have n1_:=zzm (zzp zzh2 hb);have n2_:=zzm (hbox);have n3_:=zzm ((by rw [hg];exact (zzo zzh2):w.heap.size≤gb302));have n4_:=zzm ((by rw [hg];exact (zzo zzh2):w.heap.size≤gb302));have n5_:=zzm ((by rw [hg];exact Nat.ne_of_lt (blk_lt (g:=gb296) (o:=.cells #[.bool a0_0,.bool a0_1,.int .i64 a0_2,.int .i64 a0_3,.int .i64 a0_4,.slice (some ad301) l0_5.length c0_5] 34 (0,0)) (zzE BK296.out)):gb296≠gb302));have n6_:=zzm ((by rw [hg];exact Nat.ne_of_gt (blk_lt (g:=gb296) (o:=.cells #[.bool a0_0,.bool a0_1,.int .i64 a0_2,.int .i64 a0_3,.int .i64 a0_4,.slice (some ad301) l0_5.length c0_5] 34 (0,0)) (zzE BK296.out)):gb302≠gb296));clear BK296 HB;have BK296:=n0_;have HB:=n1_;have BK302:=n2_;have GW302:=n3_;have GE302:=n4_;have NB296_302:=n5_;have NB302_296:=n6_;clear n0_ n1_ n2_ n3_ n4_ n5_ n6_ hb hbox hg;have hnb61:=NB302_296.out;have hnc61:=NB296_302.out;obtain ⟨hcz62_0,hcz62_1,hcz62_2,hcz62_3,hcz62_4,hcz62_5,hfz62_0,hfz62_1,hfz62_2,hfz62_3,hfz62_4,hfz62_5⟩:=zzc6 BK302.out))
            have n0_:Aside0 (((((((w60.setCell ⟨gb302,0,none⟩ (.int .i64 ((Qb l0_5 x54_3).f0))).setCell ⟨gb302,1,none⟩ (.int .i64 ((Qb l0_5 x54_3).f1))).setCell ⟨gb302,2,none⟩ (.bool ((Qb l0_5 x54_3).f2))).setCell ⟨gb302,3,none⟩ (.slice A301_3 ((Qb l0_5 x54_3).f3).length c301_3)).setCell ⟨gb302,4,none⟩ (.bool ((Qb l0_5 x54_3).f4))).setCell ⟨gb302,5,none⟩ (.slice A301_5 ((Qb l0_5 x54_3).f5).length c301_5)).heap[gb296]? = some (.cells #[.bool a0_0,.bool a0_1,.int .i64 a0_2,.int .i64 a0_3,.int .i64 a0_4,.slice (some ad301) l0_5.length c0_5] 34 (0,0))):=⟨by (with_reducible repeat (first|apply zzf|apply zzg|apply zze));refine zzj ?_ NB296_302.out _;(with_reducible repeat (first|apply zzf|apply zzg|apply zze));refine zzj ?_ NB296_302.out _;(with_reducible repeat (first|apply zzf|apply zzg|apply zze));refine zzj ?_ NB296_302.out _;(with_reducible repeat (first|apply zzf|apply zzg|apply zze));refine zzj ?_ NB296_302.out _;(with_reducible repeat (first|apply zzf|apply zzg|apply zze));refine zzj ?_ NB296_302.out _;(with_reducible repeat (first|apply zzf|apply zzg|apply zze));refine zzj ?_ NB296_302.out _;(with_reducible repeat (first|apply zzf|apply zzg|apply zze));exact BK296.out⟩;have n1_:Aside0 (((((((w60.setCell ⟨gb302,0,none⟩ (.int .i64 ((Qb l0_5 x54_3).f0))).setCell ⟨gb302,1,none⟩ (.int .i64 ((Qb l0_5 x54_3).f1))).setCell ⟨gb302,2,none⟩ (.bool ((Qb l0_5 x54_3).f2))).setCell ⟨gb302,3,none⟩ (.slice A301_3 ((Qb l0_5 x54_3).f3).length c301_3)).setCell ⟨gb302,4,none⟩ (.bool ((Qb l0_5 x54_3).f4))).setCell ⟨gb302,5,none⟩ (.slice A301_5 ((Qb l0_5 x54_3).f5).length c301_5)).heap[gb302]? = some (.cells #[.int .i64 ((Qb l0_5 x54_3).f0),.int .i64 ((Qb l0_5 x54_3).f1),.bool ((Qb l0_5 x54_3).f2),.slice A301_3 ((Qb l0_5 x54_3).f3).length c301_3,.bool ((Qb l0_5 x54_3).f4),.slice A301_5 ((Qb l0_5 x54_3).f5).length c301_5] 30 (0,0))):=⟨by (with_reducible repeat (first|apply zzf|apply zzg|apply zze));refine zzi (cs:=#[.int .i64 ((Qb l0_5 x54_3).f0),.int .i64 ((Qb l0_5 x54_3).f1),.bool ((Qb l0_5 x54_3).f2),.slice A301_3 ((Qb l0_5 x54_3).f3).length c301_3,.bool ((Qb l0_5 x54_3).f4),.slice none 0 0]) ?_ 5 _ rfl;(with_reducible repeat (first|apply zzf|apply zzg|apply zze));refine zzi (cs:=#[.int .i64 ((Qb l0_5 x54_3).f0),.int .i64 ((Qb l0_5 x54_3).f1),.bool ((Qb l0_5 x54_3).f2),.slice A301_3 ((Qb l0_5 x54_3).f3).length c301_3,.bool false,.slice none 0 0]) ?_ 4 _ rfl;(with_reducible repeat (first|apply zzf|apply zzg|apply zze));refine zzi (cs:=#[.int .i64 ((Qb l0_5 x54_3).f0),.int .i64 ((Qb l0_5 x54_3).f1),.bool ((Qb l0_5 x54_3).f2),.slice none 0 0,.bool false,.slice none 0 0]) ?_ 3 _ rfl;(with_reducible repeat (first|apply zzf|apply zzg|apply zze));refine zzi (cs:=#[.int .i64 ((Qb l0_5 x54_3).f0),.int .i64 ((Qb l0_5 x54_3).f1),.bool false,.slice none 0 0,.bool false,.slice none 0 0]) ?_ 2 _ rfl;(with_reducible repeat (first|apply zzf|apply zzg|apply zze));refine zzi (cs:=#[.int .i64 ((Qb l0_5 x54_3).f0),.int .i64 0,.bool false,.slice none 0 0,.bool false,.slice none 0 0]) ?_ 1 _ rfl;(with_reducible repeat (first|apply zzf|apply zzg|apply zze));refine zzi (cs:=#[.int .i64 0,.int .i64 0,.bool false,.slice none 0 0,.bool false,.slice none 0 0]) ?_ 0 _ rfl;(with_reducible repeat (first|apply zzf|apply zzg|apply zze));exact BK302.out⟩;have n2_:Aside0 (Below w.heap.size w ((((((w60.setCell ⟨gb302,0,none⟩ (.int .i64 ((Qb l0_5 x54_3).f0))).setCell ⟨gb302,1,none⟩ (.int .i64 ((Qb l0_5 x54_3).f1))).setCell ⟨gb302,2,none⟩ (.bool ((Qb l0_5 x54_3).f2))).setCell ⟨gb302,3,none⟩ (.slice A301_3 ((Qb l0_5 x54_3).f3).length c301_3)).setCell ⟨gb302,4,none⟩ (.bool ((Qb l0_5 x54_3).f4))).setCell ⟨gb302,5,none⟩ (.slice A301_5 ((Qb l0_5 x54_3).f5).length c301_5))):=⟨by repeat (first|(with_reducible first|exact HB.out|apply zza|apply zzb|apply zzc|refine zzd ?_ GE296.out|refine zzd ?_ GE302.out)|exact HB.out)⟩
            (try clear BK296)
            (try clear BK302)
            (try clear HB);generalize ((((((w60.setCell ⟨gb302,0,none⟩ (.int .i64 ((Qb l0_5 x54_3).f0))).setCell ⟨gb302,1,none⟩ (.int .i64 ((Qb l0_5 x54_3).f1))).setCell ⟨gb302,2,none⟩ (.bool ((Qb l0_5 x54_3).f2))).setCell ⟨gb302,3,none⟩ (.slice A301_3 ((Qb l0_5 x54_3).f3).length c301_3)).setCell ⟨gb302,4,none⟩ (.bool ((Qb l0_5 x54_3).f4))).setCell ⟨gb302,5,none⟩ (.slice A301_5 ((Qb l0_5 x54_3).f5).length c301_5))=w63 at n0_ n1_ n2_ ⊢;have BK296:=n0_;have BK302:=n1_;have HB:=n2_;clear n0_ n1_ n2_;have n0_:=zzm (zzg BK296.out);have n1_:=zzm (zzg BK302.out);have n2_:=zzm (zzc HB.out);clear BK296 BK302 HB;have BK296:=n0_;have BK302:=n1_;have HB:=n2_;clear n0_ n1_ n2_;refine start_ (n:=19) (S:=fun w'=>w'.cell? ⟨gb302,0,none⟩=some (.int .i64 ((Qb l0_5 x54_3).f0))∧w'.cell? ⟨gb302,1,none⟩=some (.int .i64 ((Qb l0_5 x54_3).f1))∧w'.cell? ⟨gb302,2,none⟩=some (.bool ((Qb l0_5 x54_3).f2))∧w'.cell? ⟨gb302,3,none⟩=some (.slice A301_3 ((Qb l0_5 x54_3).f3).length c301_3)∧w'.cell? ⟨gb302,4,none⟩=some (.bool ((Qb l0_5 x54_3).f4))∧w'.cell? ⟨gb302,5,none⟩=some (.slice A301_5 ((Qb l0_5 x54_3).f5).length c301_5)) (ds:=[]) (zzB 19 0) (by kernel_rfl) rfl rfl ⟨(zzk BK302.out 0).trans rfl,(zzk BK302.out 1).trans rfl,(zzk BK302.out 2).trans rfl,(zzk BK302.out 3).trans rfl,(zzk BK302.out 4).trans rfl,(zzk BK302.out 5).trans rfl⟩ (fun hHeld=>?_);refine with_tabW Qe.tab11 Qe.bits11 (fun HT_ HW_=>?_);generalize w63.drew=w64 at BK296 BK302 HB hHeld ⊢;refine take_ (i:=0) (N:=some 59) (v:=?_) (a':=?_) (zzB 19 1) rfl rfl (take_ofW HT_.out HW_.out (by kernel_rfl)) (fun _ _ _ h=>h) (Or.inl ⟨by rfl,?_⟩) hHeld ?_ ?_;rotate_left
            ·
             rintro w' ⟨s0,s1,s2,s3,s4,s5⟩;go_simp;with_reducible rfl
            rotate_left
            ·
             simp only [Act.put,zzq,zzr,zzs,i64_w,i32_w];rfl
            refine one_ (i:=1) (N:=some 60) (zzB 19 3) rfl rfl (one_of HT_.out (by kernel_rfl)) (by decide) (fun K hK=>?_);refine goes_ Try.func79 (by kernel_rfl) rfl #[.agg #[.int .i64 ((Qb l0_5 x54_3).f0),.int .i64 ((Qb l0_5 x54_3).f1),.bool ((Qb l0_5 x54_3).f2),.slice A301_3 ((Qb l0_5 x54_3).f3).length c301_3,.bool ((Qb l0_5 x54_3).f4),.slice A301_5 ((Qb l0_5 x54_3).f5).length c301_5]] (by rfl) rfl rfl zzM2 ?_;with_reducible refine (Q3.calls k3 ((Qb l0_5 x54_3).f0) ((Qb l0_5 x54_3).f1) ((Qb l0_5 x54_3).f2) _ _ ((Qb l0_5 x54_3).f3) ((Qb l0_5 x54_3).f4) _ _ ((Qb l0_5 x54_3).f5) false _ ?side1 ?side2 ?side3 ?side4 A35.out).mono ?_
            (case side1=>repeat (first|exact (Kd.C_below HR301_3.out HB.out)|(with_reducible refine Kd.C_alloc ?_ _)|(with_reducible refine Kd.C_drewN ?_ _)|(with_reducible refine Kd.C_drew ?_)))
            (case side2=>exact HC301_3.out)
            (case side3=>repeat (first|exact (Kd.C_below HR301_5.out HB.out)|(with_reducible refine Kd.C_alloc ?_ _)|(with_reducible refine Kd.C_drewN ?_ _)|(with_reducible refine Kd.C_drew ?_)))
            (case side4=>exact HC301_5.out);rintro e w65 ⟨rfl,hb⟩;refine ⟨_,rfl,?_⟩;have n0_:=zzm (zzh (g:=gb296) (o:=.cells #[.bool a0_0,.bool a0_1,.int .i64 a0_2,.int .i64 a0_3,.int .i64 a0_4,.slice (some ad301) l0_5.length c0_5] 34 (0,0)) (zzE BK296.out) hb);have n1_:=zzm (zzh (g:=gb302) (o:=.cells #[.int .i64 ((Qb l0_5 x54_3).f0),.int .i64 ((Qb l0_5 x54_3).f1),.bool ((Qb l0_5 x54_3).f2),.slice A301_3 ((Qb l0_5 x54_3).f3).length c301_3,.bool ((Qb l0_5 x54_3).f4),.slice A301_5 ((Qb l0_5 x54_3).f5).length c301_5] 30 (0,0)) (zzE BK302.out) hb);have n2_:=zzm (zzp zzh2 hb);clear BK296 BK302 HB;have BK296:=n0_;have BK302:=n1_;have HB:=n2_;clear n0_ n1_ n2_
            (try clear hb)
            (try clear hb2)
            (try clear hk)
            (try clear hi);refine hK.out _ _ ⟨(zzk BK302.out 0).trans rfl,(zzk BK302.out 1).trans rfl,(zzk BK302.out 2).trans rfl,(zzk BK302.out 3).trans rfl,(zzk BK302.out 4).trans rfl,(zzk BK302.out 5).trans rfl⟩ (fun hHeld=>?_);clear hK K;refine norm_ (a':=?_) ?_ ?_;rotate_left
            ·
             show Act.put _ (some 60) _ = _;simp only [Act.put,zzq,zzr,zzs,i64_w,i32_w];rfl
            refine pure_ (i:=2) (N:=some 61) (v:=?_) (a':=?_) (zzB 19 7) rfl rfl (zzA2 HT_.out) (fun _ _ _ h=>h) (Or.inl ⟨by rfl,?_⟩) ?_ ?_;rotate_left
            ·
             intro w';go_simp;with_reducible rfl
            rotate_left
            ·
             simp only [Act.put,zzq,zzr,zzs,i64_w,i32_w];rfl
            refine pure_ (i:=3) (N:=some 62) (v:=?_) (a':=?_) (zzB 19 15) rfl rfl (zzA2 HT_.out) (fun _ _ _ h=>h) (Or.inl ⟨by rfl,?_⟩) ?_ ?_;rotate_left
            ·
             intro w';go_simp;with_reducible rfl
            rotate_left
            ·
             simp only [Act.put,zzq,zzr,zzs,i64_w,i32_w];rfl
            refine pure_ (i:=4) (N:=some 63) (v:=undef) (a':=?_) (zzB 19 31) rfl rfl (zzA2 HT_.out) (fun _ _ _ h=>h) (Or.inr ⟨by rfl,rfl⟩) ?_ ?_;rotate_left
            ·
             simp only [Act.put,zzq,zzr,zzs,i64_w,i32_w];rfl
            refine pure_ (i:=5) (N:=some 64) (v:=undef) (a':=?_) (zzB 19 63) rfl rfl (zzA2 HT_.out) (fun _ _ _ h=>h) (Or.inr ⟨by rfl,rfl⟩) ?_ ?_;rotate_left
            ·
             simp only [Act.put,zzq,zzr,zzs,i64_w,i32_w];rfl
            refine pure_ (i:=6) (N:=some 65) (v:=undef) (a':=?_) (zzB 19 127) rfl rfl (zzA2 HT_.out) (fun _ _ _ h=>h) (Or.inr ⟨by rfl,rfl⟩) ?_ ?_;rotate_left
            ·
             simp only [Act.put,zzq,zzr,zzs,i64_w,i32_w];rfl
            refine pure_ (i:=7) (N:=some 66) (v:=undef) (a':=?_) (zzB 19 255) rfl rfl (zzA2 HT_.out) (fun _ _ _ h=>h) (Or.inr ⟨by rfl,rfl⟩) ?_ ?_;rotate_left
            ·
             simp only [Act.put,zzq,zzr,zzs,i64_w,i32_w];rfl
            refine pure_ (i:=8) (N:=some 67) (v:=undef) (a':=?_) (zzB 19 511) rfl rfl (zzA2 HT_.out) (fun _ _ _ h=>h) (Or.inr ⟨by rfl,rfl⟩) ?_ ?_;rotate_left
            ·
             simp only [Act.put,zzq,zzr,zzs,i64_w,i32_w];rfl
            refine pure_ (i:=9) (N:=some 68) (v:=undef) (a':=?_) (zzB 19 1023) rfl rfl (zzA2 HT_.out) (fun _ _ _ h=>h) (Or.inr ⟨by rfl,rfl⟩) ?_ ?_;rotate_left
            ·
             simp only [Act.put,zzq,zzr,zzs,i64_w,i32_w];rfl
            refine pure_ (i:=10) (N:=some 69) (v:=undef) (a':=?_) (zzB 19 2047) rfl rfl (zzA2 HT_.out) (fun _ _ _ h=>h) (Or.inr ⟨by rfl,rfl⟩) ?_ ?_;rotate_left
            ·
             simp only [Act.put,zzq,zzr,zzs,i64_w,i32_w];rfl
            refine pure_ (i:=11) (N:=some 70) (v:=undef) (a':=?_) (zzB 19 4095) rfl rfl (zzA2 HT_.out) (fun _ _ _ h=>h) (Or.inr ⟨by rfl,rfl⟩) ?_ ?_;rotate_left
            ·
             simp only [Act.put,zzq,zzr,zzs,i64_w,i32_w];rfl
            refine pure_ (i:=12) (N:=some 71) (v:=undef) (a':=?_) (zzB 19 8191) rfl rfl (zzA2 HT_.out) (fun _ _ _ h=>h) (Or.inr ⟨by rfl,rfl⟩) ?_ ?_;rotate_left
            ·
             simp only [Act.put,zzq,zzr,zzs,i64_w,i32_w];rfl
            refine pure_ (i:=13) (N:=some 72) (v:=undef) (a':=?_) (zzB 19 16383) rfl rfl (zzA2 HT_.out) (fun _ _ _ h=>h) (Or.inr ⟨by rfl,rfl⟩) ?_ ?_;rotate_left
            ·
             simp only [Act.put,zzq,zzr,zzs,i64_w,i32_w];rfl
            refine pure_ (i:=14) (N:=some 73) (v:=undef) (a':=?_) (zzB 19 32767) rfl rfl (zzA2 HT_.out) (fun _ _ _ h=>h) (Or.inr ⟨by rfl,rfl⟩) ?_ ?_;rotate_left
            ·
             simp only [Act.put,zzq,zzr,zzs,i64_w,i32_w];rfl
            refine pure_ (i:=15) (N:=some 74) (v:=undef) (a':=?_) (zzB 19 65535) rfl rfl (zzA2 HT_.out) (fun _ _ _ h=>h) (Or.inr ⟨by rfl,rfl⟩) ?_ ?_;rotate_left
            ·
             simp only [Act.put,zzq,zzr,zzs,i64_w,i32_w];rfl
            refine pure_ (i:=16) (N:=some 75) (v:=undef) (a':=?_) (zzB 19 131071) rfl rfl (zzA2 HT_.out) (fun _ _ _ h=>h) (Or.inr ⟨by rfl,rfl⟩) ?_ ?_;rotate_left
            ·
             simp only [Act.put,zzq,zzr,zzs,i64_w,i32_w];rfl
            refine pure_ (i:=17) (N:=some 76) (v:=undef) (a':=?_) (zzB 19 262143) rfl rfl (zzA2 HT_.out) (fun _ _ _ h=>h) (Or.inr ⟨by rfl,rfl⟩) ?_ ?_;rotate_left
            ·
             simp only [Act.put,zzq,zzr,zzs,i64_w,i32_w];rfl
            refine pure_ (i:=18) (N:=some 77) (v:=?_) (a':=?_) (zzB 19 524287) rfl rfl (zzA2 HT_.out) (fun _ _ _ h=>h) (Or.inl ⟨by rfl,?_⟩) ?_ ?_;rotate_left
            ·
             intro w';go_simp;with_reducible rfl
            rotate_left
            ·
             simp only [Act.put,zzq,zzr,zzs,i64_w,i32_w];rfl
            refine done_ (done_of HT_.out (by kernel_rfl)) ?_;try go_wp2
            go_ret;exact ⟨by first|rfl|(simp [errW_none,errW_some] <;> rfl)|(simp [*,errW_none,errW_some] <;> rfl),by repeat (first|(with_reducible first|exact HB.out|apply zza|apply zzb|apply zzc|refine zzd ?_ GE296.out|refine zzd ?_ GE302.out)|exact HB.out)⟩
          ·
           rw [if_neg c34] at H;exact absurd H (by simp)
         ·
          rw [if_neg c33] at H;exact absurd H (by simp)
        ·
         rw [if_neg c32] at H;have c32b0:decide (x54_3 < (l0_5.length:Int))=false:=decide_eq_false c32;clear c32;obtain rfl:=Option.some.inj H;go_wp2;go_ret;exact ⟨by first|rfl|(simp [errW_none,errW_some] <;> rfl)|(simp [*,errW_none,errW_some] <;> rfl),by repeat (first|(with_reducible first|exact HB.out|apply zza|apply zzb|apply zzc|refine zzd ?_ GE296.out)|exact HB.out)⟩
def Q2.f (a0_0:Bool) (a0_1:Bool) (a0_2:Int) (a0_3:Int) (a0_4:Int) (l0_5:List (S30)):Option (Int):=if 0≤(wrap64 ((l0_5.length:Int) - 1)) then (if (wrap64 ((l0_5.length:Int) - 1)) < (l0_5.length:Int) then (some ((Qb l0_5 (wrap64 ((l0_5.length:Int) - 1))).f0)) else (none)) else (none)
set_option maxHeartbeats 8000000 in
set_option maxRecDepth 100000 in
theorem Q2.calls (a0_0:Bool) (a0_1:Bool) (a0_2:Int) (a0_3:Int) (a0_4:Int) (A0_5:Option Addr) (c0_5:Nat) (l0_5:List (S30)) (r:Int) (w:World) (hr0_5:Kd.C k30 w A0_5 l0_5.length l0_5) (hc0_5:l0_5.length≤c0_5) (h:Q2.f a0_0 a0_1 a0_2 a0_3 a0_4 l0_5=some r) :
  Calls Try.prog 57 #[.agg #[.bool a0_0,.bool a0_1,.int .i64 a0_2,.int .i64 a0_3,.int .i64 a0_4,.slice A0_5 l0_5.length c0_5]] w fun e w'=>e = .returned (.int .i64 r)∧Below w.heap.size w w':=by
 have hu34:=Try.underlying34;have HR0_5:=zzm hr0_5;have HC0_5:=zzm hc0_5;clear hr0_5 hc0_5;have HB:=zzm (Below.refl w.heap.size w);have H:(if 0≤(wrap64 ((l0_5.length:Int) - 1)) then (if (wrap64 ((l0_5.length:Int) - 1)) < (l0_5.length:Int) then (some ((Qb l0_5 (wrap64 ((l0_5.length:Int) - 1))).f0)) else (none)) else (none))=some r:=h;clear h;obtain ⟨ji2,hji2⟩:∃ j_:Int,(wrap64 ((l0_5.length:Int) - 1))=j_:=⟨_,rfl⟩;replace H:(if 0≤(ji2) then (if (ji2) < (l0_5.length:Int) then (some ((Qb l0_5 (ji2)).f0)) else (none)) else (none))=some r:=by first|(rw [hji2] at H;exact H)|(simp only [hji2] at H ⊢;exact H)
 have hji2w:(IntKind.i64.wrap ((l0_5.length:Int) - 1))=ji2:=(i64_w _).trans hji2;by_cases c3 : 0≤(ji2)
 ·
  rw [if_pos c3] at H;have c3b0:decide (0≤(ji2))=true:=decide_eq_true c3;clear c3;by_cases c4:(ji2) < (l0_5.length:Int)
  ·
   rw [if_pos c4] at H;have c4b0:decide ((ji2) < (l0_5.length:Int))=true:=decide_eq_true c4;clear c4;obtain rfl:=Option.some.inj H;go_enter Try.func57,Try.ntmps57;go_wp2_with (first|((with_reducible refine gate_dst (N:=1) rfl ?_);refine box_event ?hg (N:=1) ?hd (cs:=#[.bool a0_0,.bool a0_1,.int .i64 a0_2,.int .i64 a0_3,.int .i64 a0_4,.slice A0_5 l0_5.length c0_5]) (t:=34) ?hr ?_;(case hd=>rfl);(case hg=>rfl);(case hr=>first|(go_simp;done)|(go_simp;rfl));intro gb305 hg w5 hbox hb;have n0_:=zzm (zzp zzh1 hb);have n1_:=zzm (hbox);have n2_:=zzm ((by rw [hg];exact (zzo zzh1):w.heap.size≤gb305));have n3_:=zzm ((by rw [hg];exact (zzo zzh1):w.heap.size≤gb305));clear HB;have HB:=n0_;have BK305:=n1_;have GW305:=n2_;have GE305:=n3_;clear n0_ n1_ n2_ n3_ hb hbox hg;obtain ⟨hcz6_0,hcz6_1,hcz6_2,hcz6_3,hcz6_4,hcz6_5,hfz6_0,hfz6_1,hfz6_2,hfz6_3,hfz6_4,hfz6_5⟩:=zzc6 BK305.out;have p306 : 0≤((ji2):Int):=zzt;have q306:(ji2) < (l0_5.length:Int):=zzt;obtain ⟨ad306,A306_3,c306_3,A306_5,c306_5,e306,hx306_0,hx306_1,hx306_2,hx306_3,hx306_4,hx306_5,hl306_3,hi306_3,hl306_5,hi306_5⟩:=Qy HR0_5.out (ji2) p306 q306;cases e306;replace hx306_0:=zzx HB.out hx306_0;replace hx306_1:=zzx HB.out hx306_1;replace hx306_2:=zzx HB.out hx306_2;replace hx306_3:=zzx HB.out hx306_3;replace hx306_4:=zzx HB.out hx306_4;replace hx306_5:=zzx HB.out hx306_5;have HR306_3:=zzm hi306_3;have HC306_3:=zzm hl306_3;clear hi306_3 hl306_3;have HR306_5:=zzm hi306_5;have HC306_5:=zzm hl306_5;clear hi306_5 hl306_5;replace p306:=eq_true p306;replace q306:=eq_true q306));go_ret;exact ⟨by first|rfl|(simp [errW_none,errW_some] <;> rfl)|(simp only [← hji2];first|rfl|(simp [errW_none,errW_some] <;> rfl))|(simp [*,errW_none,errW_some] <;> rfl),by repeat (first|(with_reducible first|exact HB.out|apply zza|apply zzb|apply zzc|refine zzd ?_ GE305.out)|exact HB.out)⟩
  ·
   rw [if_neg c4] at H;exact absurd H (by simp)
 ·
  rw [if_neg c3] at H;exact absurd H (by simp)
def Q0.f (a0_0:Bool) (a0_1:Bool) (a0_2:Int) (a0_3:Int) (a0_4:Int) (l0_5:List (S30)):Option (Int):=if 0 < (l0_5.length:Int) then (some ((Qb l0_5 0).f0)) else (none)
set_option maxHeartbeats 8000000 in
set_option maxRecDepth 100000 in
theorem Q0.calls (a0_0:Bool) (a0_1:Bool) (a0_2:Int) (a0_3:Int) (a0_4:Int) (A0_5:Option Addr) (c0_5:Nat) (l0_5:List (S30)) (r:Int) (w:World) (hr0_5:Kd.C k30 w A0_5 l0_5.length l0_5) (hc0_5:l0_5.length≤c0_5) (h:Q0.f a0_0 a0_1 a0_2 a0_3 a0_4 l0_5=some r) :
  Calls Try.prog 58 #[.agg #[.bool a0_0,.bool a0_1,.int .i64 a0_2,.int .i64 a0_3,.int .i64 a0_4,.slice A0_5 l0_5.length c0_5]] w fun e w'=>e = .returned (.int .i64 r)∧Below w.heap.size w w':=by
 have hu34:=Try.underlying34;have HR0_5:=zzm hr0_5;have HC0_5:=zzm hc0_5;clear hr0_5 hc0_5;have HB:=zzm (Below.refl w.heap.size w);have H:(if 0 < (l0_5.length:Int) then (some ((Qb l0_5 0).f0)) else (none))=some r:=h;clear h;by_cases c2 : 0 < (l0_5.length:Int)
 ·
  rw [if_pos c2] at H;have c2b0:decide (0 < (l0_5.length:Int))=true:=decide_eq_true c2;have c2b1:decide (0 < l0_5.length)=true:=decide_eq_true (by omega);clear c2;obtain rfl:=Option.some.inj H;go_enter Try.func58,Try.ntmps58;go_wp2_with (first|((with_reducible refine gate_dst (N:=1) rfl ?_);refine box_event ?hg (N:=1) ?hd (cs:=#[.bool a0_0,.bool a0_1,.int .i64 a0_2,.int .i64 a0_3,.int .i64 a0_4,.slice A0_5 l0_5.length c0_5]) (t:=34) ?hr ?_;(case hd=>rfl);(case hg=>rfl);(case hr=>first|(go_simp;done)|(go_simp;rfl));intro gb307 hg w3 hbox hb;have n0_:=zzm (zzp zzh1 hb);have n1_:=zzm (hbox);have n2_:=zzm ((by rw [hg];exact (zzo zzh1):w.heap.size≤gb307));have n3_:=zzm ((by rw [hg];exact (zzo zzh1):w.heap.size≤gb307));clear HB;have HB:=n0_;have BK307:=n1_;have GW307:=n2_;have GE307:=n3_;clear n0_ n1_ n2_ n3_ hb hbox hg;obtain ⟨hcz4_0,hcz4_1,hcz4_2,hcz4_3,hcz4_4,hcz4_5,hfz4_0,hfz4_1,hfz4_2,hfz4_3,hfz4_4,hfz4_5⟩:=zzc6 BK307.out;have p308 : 0≤(0:Int):=(by omega);have q308 : 0 < (l0_5.length:Int):=zzt;obtain ⟨ad308,A308_3,c308_3,A308_5,c308_5,e308,hx308_0,hx308_1,hx308_2,hx308_3,hx308_4,hx308_5,hl308_3,hi308_3,hl308_5,hi308_5⟩:=Qy HR0_5.out 0 p308 q308;cases e308;have qi308:(0 < l0_5.length)=True:=eq_true (by omega);(try rw [show ((0:Int)).toNat=0 from rfl] at hx308_0);(try rw [show 0 * 6=0 from rfl] at hx308_0);(try rw [Addr.add_zero'] at hx308_0);(try rw [show ((0:Int)).toNat=0 from rfl] at hx308_1);(try rw [show 0 * 6=0 from rfl] at hx308_1);(try rw [Addr.add_zero'] at hx308_1);(try rw [show ((0:Int)).toNat=0 from rfl] at hx308_2);(try rw [show 0 * 6=0 from rfl] at hx308_2);(try rw [Addr.add_zero'] at hx308_2);(try rw [show ((0:Int)).toNat=0 from rfl] at hx308_3);(try rw [show 0 * 6=0 from rfl] at hx308_3);(try rw [Addr.add_zero'] at hx308_3);(try rw [show ((0:Int)).toNat=0 from rfl] at hx308_4);(try rw [show 0 * 6=0 from rfl] at hx308_4);(try rw [Addr.add_zero'] at hx308_4);(try rw [show ((0:Int)).toNat=0 from rfl] at hx308_5);(try rw [show 0 * 6=0 from rfl] at hx308_5);(try rw [Addr.add_zero'] at hx308_5);replace hx308_0:=zzx HB.out hx308_0;replace hx308_1:=zzx HB.out hx308_1;replace hx308_2:=zzx HB.out hx308_2;replace hx308_3:=zzx HB.out hx308_3;replace hx308_4:=zzx HB.out hx308_4;replace hx308_5:=zzx HB.out hx308_5;have HR308_3:=zzm hi308_3;have HC308_3:=zzm hl308_3;clear hi308_3 hl308_3;have HR308_5:=zzm hi308_5;have HC308_5:=zzm hl308_5;clear hi308_5 hl308_5;replace p308:=eq_true p308;replace q308:=eq_true q308));go_ret;exact ⟨by first|rfl|(simp [errW_none,errW_some] <;> rfl)|(simp [*,errW_none,errW_some] <;> rfl),by repeat (first|(with_reducible first|exact HB.out|apply zza|apply zzb|apply zzc|refine zzd ?_ GE307.out)|exact HB.out)⟩
 ·
  rw [if_neg c2] at H;exact absurd H (by simp)
def Qn.l0:Nat→List (S34)→List (S34)→Int→Int→Option (Bool)
 | 0,_,_,_,_=>none
 | k+1,x0,x8,x9,x10=>if x10 < x9 then (if 0≤x10 then (if x10 < (x8.length:Int) then ((Qe.f k ((Qa x8 x10).f0) ((Qa x8 x10).f1) ((Qa x8 x10).f2) ((Qa x8 x10).f3) ((Qa x8 x10).f4) ((Qa x8 x10).f5)).bind fun t311=>(if t311=true then (if x10 > 0 then (if 0≤(wrap64 (x10 - 1)) then (if (wrap64 (x10 - 1)) < (x0.length:Int) then ((Q2.f ((Qa x0 (wrap64 (x10 - 1))).f0) ((Qa x0 (wrap64 (x10 - 1))).f1) ((Qa x0 (wrap64 (x10 - 1))).f2) ((Qa x0 (wrap64 (x10 - 1))).f3) ((Qa x0 (wrap64 (x10 - 1))).f4) ((Qa x0 (wrap64 (x10 - 1))).f5)).bind fun t313=>((Q0.f ((Qa x8 x10).f0) ((Qa x8 x10).f1) ((Qa x8 x10).f2) ((Qa x8 x10).f3) ((Qa x8 x10).f4) ((Qa x8 x10).f5)).bind fun t314=>(if t313 ≥ t314 then (some false) else (Qn.l0 k x0 x8 x9 (wrap64 (x10+1)))))) else (none)) else (none)) else (Qn.l0 k x0 x8 x9 (wrap64 (x10+1)))) else (some false))) else (none)) else (none)) else (some true)
def Qn.f (k:Nat) (l0:List (S34)):Option (Bool):=if (l0.length:Int) > 8 then (some false) else (Qn.l0 k l0 l0 (l0.length:Int) 0)
def Qn.T6:Bool×List (List Nat×List Nat):=(true,[([],[]),([0],[0]),([1],[1]),([2,1],[2]),([3],[3]),([4,3],[3,4]),([5,3,3],[3,5]),([6],[6]),([6],[6]),([8,6],[6,8]),([7,9,6],[6,7,9]),([10,6],[6,10]),([11,6,6],[6,11]),([6],[6]),([13,12,6],[6,13]),([12,14,6],[6,12,14]),([6,15,3],[3,6,15]),([3,16],[3,16])])
def Qn.B6:List Nat:=[0,1,3,7,15,31,63,127,127,383,1023,2047,4095,127,16383,32767,65535,131071]
theorem Qn.tab6:rtab .any (opsOf Try.f29 6)=Qn.T6:=by kernel_rfl
theorem Qn.bits6:waitsOk Qn.T6.2 Qn.B6=true:=by kernel_rfl
set_option maxHeartbeats 8000000 in
set_option maxRecDepth 100000 in
theorem Qn.calls (k:Nat) (A0:Option Addr) (c0:Nat) (l0:List (S34)) (r:Bool) (w:World) (hr0:Kd.C k34 w A0 l0.length l0) (hc0:l0.length≤c0) (h:Qn.f k l0=some r) :
  Calls Try.prog 29 #[.slice A0 l0.length c0] w fun e w'=>e = .returned (.bool r)∧Below w.heap.size w w':=by
 have hu34:=Try.underlying34;have HR0:=zzm hr0;have HC0:=zzm hc0;clear hr0 hc0;have HB:=zzm (Below.refl w.heap.size w);have H:(if (l0.length:Int) > 8 then (some false) else (Qn.l0 k l0 l0 (l0.length:Int) 0))=some r:=h;clear h;by_cases c2:(l0.length:Int) > 8
 ·
  rw [if_pos c2] at H;have c2b0:decide (8 < (l0.length:Int))=true:=decide_eq_true c2;have c2b1:decide (8 < l0.length)=true:=decide_eq_true (by omega);clear c2;obtain rfl:=Option.some.inj H;go_enter Try.func29,Try.ntmps29;go_wp2;go_ret;exact ⟨by first|rfl|(simp [errW_none,errW_some] <;> rfl)|(simp [*,errW_none,errW_some] <;> rfl),zzh1⟩
 ·
  rw [if_neg c2] at H;have c2b0:decide (8 < (l0.length:Int))=false:=decide_eq_false c2;have c2b1:decide (8 < l0.length)=false:=decide_eq_false (by omega);clear c2;have H':=zzm H;clear H;go_enter Try.func29,Try.ntmps29;go_wp2;go_loopg [10] k (fun kq v10 w'=>∃ (x10_1:Int),v10 = .int .i64 x10_1∧Aside0 (Qn.l0 kq l0 l0 (l0.length:Int) x10_1=some r)∧Aside0 (kq≤k)∧Aside0 (Below w.heap.size w w'))
  case atStart=>exact ⟨(0),(by first|rfl|(simp;done)|(simp [*];done)),H',⟨Nat.le_refl _⟩,⟨zzh1⟩⟩
  case round=>
   clear H';try clear c2
   try clear c2b0
   try clear c2b1
   try clear p2
   obtain ⟨x10_1,rfl,HA,HK1,HB⟩:=hrel;cases gk with
   | zero=>exact absurd HA.out (by simp [Qn.l0])
   | succ k1=>
    have H:=HA.out;clear HA;simp only [Qn.l0] at H;by_cases c3:x10_1 < (l0.length:Int)
    ·
     rw [if_pos c3] at H;have c3b0:decide (x10_1 < (l0.length:Int))=true:=decide_eq_true c3;clear c3;by_cases c4 : 0≤x10_1
     ·
      rw [if_pos c4] at H;have c4b0:decide (0≤x10_1)=true:=decide_eq_true c4;clear c4;by_cases c5:x10_1 < (l0.length:Int)
      ·
       rw [if_pos c5] at H;have c5b0:decide (x10_1 < (l0.length:Int))=true:=decide_eq_true c5;clear c5;replace H:=Option.bind_eq_some_iff.mp H;obtain ⟨t311,A60,H⟩:=H;replace H:(if t311=true then (if x10_1 > 0 then (if 0≤(wrap64 (x10_1 - 1)) then (if (wrap64 (x10_1 - 1)) < (l0.length:Int) then ((Q2.f ((Qa l0 (wrap64 (x10_1 - 1))).f0) ((Qa l0 (wrap64 (x10_1 - 1))).f1) ((Qa l0 (wrap64 (x10_1 - 1))).f2) ((Qa l0 (wrap64 (x10_1 - 1))).f3) ((Qa l0 (wrap64 (x10_1 - 1))).f4) ((Qa l0 (wrap64 (x10_1 - 1))).f5)).bind fun t313=>((Q0.f ((Qa l0 x10_1).f0) ((Qa l0 x10_1).f1) ((Qa l0 x10_1).f2) ((Qa l0 x10_1).f3) ((Qa l0 x10_1).f4) ((Qa l0 x10_1).f5)).bind fun t314=>(if t313 ≥ t314 then (some false) else (Qn.l0 k1 l0 l0 (l0.length:Int) (wrap64 (x10_1+1)))))) else (none)) else (none)) else (Qn.l0 k1 l0 l0 (l0.length:Int) (wrap64 (x10_1+1)))) else (some false))=some r:=H;have A6:=zzm A60;clear A60;by_cases c7:t311=true
       ·
        subst c7;have H1:(if x10_1 > 0 then (if 0≤(wrap64 (x10_1 - 1)) then (if (wrap64 (x10_1 - 1)) < (l0.length:Int) then ((Q2.f ((Qa l0 (wrap64 (x10_1 - 1))).f0) ((Qa l0 (wrap64 (x10_1 - 1))).f1) ((Qa l0 (wrap64 (x10_1 - 1))).f2) ((Qa l0 (wrap64 (x10_1 - 1))).f3) ((Qa l0 (wrap64 (x10_1 - 1))).f4) ((Qa l0 (wrap64 (x10_1 - 1))).f5)).bind fun t313=>((Q0.f ((Qa l0 x10_1).f0) ((Qa l0 x10_1).f1) ((Qa l0 x10_1).f2) ((Qa l0 x10_1).f3) ((Qa l0 x10_1).f4) ((Qa l0 x10_1).f5)).bind fun t314=>(if t313 ≥ t314 then (some false) else (Qn.l0 k1 l0 l0 (l0.length:Int) (wrap64 (x10_1+1)))))) else (none)) else (none)) else (Qn.l0 k1 l0 l0 (l0.length:Int) (wrap64 (x10_1+1))))=some r:=by rw [if_pos rfl] at H;exact H
        clear H;have H:=H1;clear H1;by_cases c8:x10_1 > 0
        ·
         rw [if_pos c8] at H;have c8b0:decide (0 < x10_1)=true:=decide_eq_true c8;clear c8;obtain ⟨ji9,hji9⟩:∃ j_:Int,(wrap64 (x10_1 - 1))=j_:=⟨_,rfl⟩;replace H:(if 0≤(ji9) then (if (ji9) < (l0.length:Int) then ((Q2.f ((Qa l0 (ji9)).f0) ((Qa l0 (ji9)).f1) ((Qa l0 (ji9)).f2) ((Qa l0 (ji9)).f3) ((Qa l0 (ji9)).f4) ((Qa l0 (ji9)).f5)).bind fun t313=>((Q0.f ((Qa l0 x10_1).f0) ((Qa l0 x10_1).f1) ((Qa l0 x10_1).f2) ((Qa l0 x10_1).f3) ((Qa l0 x10_1).f4) ((Qa l0 x10_1).f5)).bind fun t314=>(if t313 ≥ t314 then (some false) else (Qn.l0 k1 l0 l0 (l0.length:Int) (wrap64 (x10_1+1)))))) else (none)) else (none))=some r:=by first|(rw [hji9] at H;exact H)|(simp only [hji9] at H ⊢;exact H)
         (try rw [hji9] at A6);have hji9w:(IntKind.i64.wrap (x10_1 - 1))=ji9:=(i64_w _).trans hji9;by_cases c10 : 0≤(ji9)
         ·
          rw [if_pos c10] at H;have c10b0:decide (0≤(ji9))=true:=decide_eq_true c10;clear c10;by_cases c11:(ji9) < (l0.length:Int)
          ·
           rw [if_pos c11] at H;have c11b0:decide ((ji9) < (l0.length:Int))=true:=decide_eq_true c11;clear c11;replace H:=Option.bind_eq_some_iff.mp H;obtain ⟨t313,A120,H⟩:=H;replace H:((Q0.f ((Qa l0 x10_1).f0) ((Qa l0 x10_1).f1) ((Qa l0 x10_1).f2) ((Qa l0 x10_1).f3) ((Qa l0 x10_1).f4) ((Qa l0 x10_1).f5)).bind fun t314=>(if t313 ≥ t314 then (some false) else (Qn.l0 k1 l0 l0 (l0.length:Int) (wrap64 (x10_1+1)))))=some r:=H;have A12:=zzm A120;clear A120;replace H:=Option.bind_eq_some_iff.mp H;obtain ⟨t314,A130,H⟩:=H;replace H:(if t313 ≥ t314 then (some false) else (Qn.l0 k1 l0 l0 (l0.length:Int) (wrap64 (x10_1+1))))=some r:=H;have A13:=zzm A130;clear A130;by_cases c14:t313 ≥ t314
           ·
            rw [if_pos c14] at H;have c14b0:decide (t314≤t313)=true:=decide_eq_true c14;clear c14;obtain rfl:=Option.some.inj H;have p309 : 0≤(x10_1:Int):=zzt;have q309:x10_1 < (l0.length:Int):=zzt;obtain ⟨ad309,A309_5,c309_5,e309,hx309_0,hx309_1,hx309_2,hx309_3,hx309_4,hx309_5,hl309_5,hi309_5⟩:=Qw HR0.out x10_1 p309 q309;cases e309;replace hx309_0:=zzx HB.out hx309_0;replace hx309_1:=zzx HB.out hx309_1;replace hx309_2:=zzx HB.out hx309_2;replace hx309_3:=zzx HB.out hx309_3;replace hx309_4:=zzx HB.out hx309_4;replace hx309_5:=zzx HB.out hx309_5;have HR309_5:=zzm hi309_5;have HC309_5:=zzm hl309_5;clear hi309_5 hl309_5;replace p309:=eq_true p309;replace q309:=eq_true q309;try go_wp2_with (first|((with_reducible refine gate_dst (N:=4) rfl ?_);refine box_event ?hg (N:=4) ?hd (cs:=#[.bool false,.bool false,.int .i64 0,.int .i64 0,.int .i64 0,.slice none 0 0]) (t:=34) ?hr ?_;(case hd=>rfl);(case hg=>rfl);(case hr=>first|(go_simp;done)|(go_simp;rfl));intro gb310 hg w15 hbox hb;have n0_:=zzm (zzp zzh1 hb);have n1_:=zzm (hbox);have n2_:=zzm ((by rw [hg];exact (zzo zzh1):w.heap.size≤gb310));have n3_:=zzm ((by rw [hg];exact (zzo zzh1):w.heap.size≤gb310));clear HB;have HB:=n0_;have BK310:=n1_;have GW310:=n2_;have GE310:=n3_;clear n0_ n1_ n2_ n3_ hb hbox hg;obtain ⟨hcz16_0,hcz16_1,hcz16_2,hcz16_3,hcz16_4,hcz16_5,hfz16_0,hfz16_1,hfz16_2,hfz16_3,hfz16_4,hfz16_5⟩:=zzc6 BK310.out))
            have n0_:Aside0 (((((((w15.setCell ⟨gb310,0,none⟩ (.bool ((Qa l0 x10_1).f0))).setCell ⟨gb310,1,none⟩ (.bool ((Qa l0 x10_1).f1))).setCell ⟨gb310,2,none⟩ (.int .i64 ((Qa l0 x10_1).f2))).setCell ⟨gb310,3,none⟩ (.int .i64 ((Qa l0 x10_1).f3))).setCell ⟨gb310,4,none⟩ (.int .i64 ((Qa l0 x10_1).f4))).setCell ⟨gb310,5,none⟩ (.slice A309_5 ((Qa l0 x10_1).f5).length c309_5)).heap[gb310]? = some (.cells #[.bool ((Qa l0 x10_1).f0),.bool ((Qa l0 x10_1).f1),.int .i64 ((Qa l0 x10_1).f2),.int .i64 ((Qa l0 x10_1).f3),.int .i64 ((Qa l0 x10_1).f4),.slice A309_5 ((Qa l0 x10_1).f5).length c309_5] 34 (0,0))):=⟨by (with_reducible repeat (first|apply zzf|apply zzg|apply zze));refine zzi (cs:=#[.bool ((Qa l0 x10_1).f0),.bool ((Qa l0 x10_1).f1),.int .i64 ((Qa l0 x10_1).f2),.int .i64 ((Qa l0 x10_1).f3),.int .i64 ((Qa l0 x10_1).f4),.slice none 0 0]) ?_ 5 _ rfl;(with_reducible repeat (first|apply zzf|apply zzg|apply zze));refine zzi (cs:=#[.bool ((Qa l0 x10_1).f0),.bool ((Qa l0 x10_1).f1),.int .i64 ((Qa l0 x10_1).f2),.int .i64 ((Qa l0 x10_1).f3),.int .i64 0,.slice none 0 0]) ?_ 4 _ rfl;(with_reducible repeat (first|apply zzf|apply zzg|apply zze));refine zzi (cs:=#[.bool ((Qa l0 x10_1).f0),.bool ((Qa l0 x10_1).f1),.int .i64 ((Qa l0 x10_1).f2),.int .i64 0,.int .i64 0,.slice none 0 0]) ?_ 3 _ rfl;(with_reducible repeat (first|apply zzf|apply zzg|apply zze));refine zzi (cs:=#[.bool ((Qa l0 x10_1).f0),.bool ((Qa l0 x10_1).f1),.int .i64 0,.int .i64 0,.int .i64 0,.slice none 0 0]) ?_ 2 _ rfl;(with_reducible repeat (first|apply zzf|apply zzg|apply zze));refine zzi (cs:=#[.bool ((Qa l0 x10_1).f0),.bool false,.int .i64 0,.int .i64 0,.int .i64 0,.slice none 0 0]) ?_ 1 _ rfl;(with_reducible repeat (first|apply zzf|apply zzg|apply zze));refine zzi (cs:=#[.bool false,.bool false,.int .i64 0,.int .i64 0,.int .i64 0,.slice none 0 0]) ?_ 0 _ rfl;(with_reducible repeat (first|apply zzf|apply zzg|apply zze));exact BK310.out⟩;have n1_:Aside0 (Below w.heap.size w ((((((w15.setCell ⟨gb310,0,none⟩ (.bool ((Qa l0 x10_1).f0))).setCell ⟨gb310,1,none⟩ (.bool ((Qa l0 x10_1).f1))).setCell ⟨gb310,2,none⟩ (.int .i64 ((Qa l0 x10_1).f2))).setCell ⟨gb310,3,none⟩ (.int .i64 ((Qa l0 x10_1).f3))).setCell ⟨gb310,4,none⟩ (.int .i64 ((Qa l0 x10_1).f4))).setCell ⟨gb310,5,none⟩ (.slice A309_5 ((Qa l0 x10_1).f5).length c309_5))):=⟨by repeat (first|(with_reducible first|exact HB.out|apply zza|apply zzb|apply zzc|refine zzd ?_ GE310.out)|exact HB.out)⟩
            (try clear BK310)
            (try clear HB);generalize ((((((w15.setCell ⟨gb310,0,none⟩ (.bool ((Qa l0 x10_1).f0))).setCell ⟨gb310,1,none⟩ (.bool ((Qa l0 x10_1).f1))).setCell ⟨gb310,2,none⟩ (.int .i64 ((Qa l0 x10_1).f2))).setCell ⟨gb310,3,none⟩ (.int .i64 ((Qa l0 x10_1).f3))).setCell ⟨gb310,4,none⟩ (.int .i64 ((Qa l0 x10_1).f4))).setCell ⟨gb310,5,none⟩ (.slice A309_5 ((Qa l0 x10_1).f5).length c309_5))=w17 at n0_ n1_ ⊢;have BK310:=n0_;have HB:=n1_;clear n0_ n1_;have n0_:=zzm (zzg BK310.out);have n1_:=zzm (zzc HB.out);clear BK310 HB;have BK310:=n0_;have HB:=n1_;clear n0_ n1_;have p312 : 0≤((ji9):Int):=zzt;have q312:(ji9) < (l0.length:Int):=zzt;obtain ⟨ad312,A312_5,c312_5,e312,hx312_0,hx312_1,hx312_2,hx312_3,hx312_4,hx312_5,hl312_5,hi312_5⟩:=Qw HR0.out (ji9) p312 q312;have hw312_5:=hx312_5;have hw312_4:=hx312_4;have hw312_3:=hx312_3;have hw312_2:=hx312_2;have hw312_1:=hx312_1;have hw312_0:=hx312_0;obtain rfl:ad309=ad312:=(by injection e312);replace hx312_0:=zzx HB.out hx312_0;replace hx312_1:=zzx HB.out hx312_1;replace hx312_2:=zzx HB.out hx312_2;replace hx312_3:=zzx HB.out hx312_3;replace hx312_4:=zzx HB.out hx312_4;replace hx312_5:=zzx HB.out hx312_5;have HR312_5:=zzm hi312_5;have HC312_5:=zzm hl312_5;clear hi312_5 hl312_5;replace p312:=eq_true p312;replace q312:=eq_true q312;refine start_ (n:=18) (S:=fun w'=>w'.cell? ⟨gb310,0,none⟩=some (.bool ((Qa l0 x10_1).f0))∧w'.cell? ⟨gb310,1,none⟩=some (.bool ((Qa l0 x10_1).f1))∧w'.cell? ⟨gb310,2,none⟩=some (.int .i64 ((Qa l0 x10_1).f2))∧w'.cell? ⟨gb310,3,none⟩=some (.int .i64 ((Qa l0 x10_1).f3))∧w'.cell? ⟨gb310,4,none⟩=some (.int .i64 ((Qa l0 x10_1).f4))∧w'.cell? ⟨gb310,5,none⟩=some (.slice A309_5 ((Qa l0 x10_1).f5).length c309_5)∧w'.cell? (ad309.add (((ji9)).toNat * 6))=some (.bool ((Qa l0 (ji9)).f0))∧w'.cell? ⟨(ad309.add (((ji9)).toNat * 6)).block,(ad309.add (((ji9)).toNat * 6)).off+1,none⟩=some (.bool ((Qa l0 (ji9)).f1))∧w'.cell? ⟨(ad309.add (((ji9)).toNat * 6)).block,(ad309.add (((ji9)).toNat * 6)).off+2,none⟩=some (.int .i64 ((Qa l0 (ji9)).f2))∧w'.cell? ⟨(ad309.add (((ji9)).toNat * 6)).block,(ad309.add (((ji9)).toNat * 6)).off+3,none⟩=some (.int .i64 ((Qa l0 (ji9)).f3))∧w'.cell? ⟨(ad309.add (((ji9)).toNat * 6)).block,(ad309.add (((ji9)).toNat * 6)).off+4,none⟩=some (.int .i64 ((Qa l0 (ji9)).f4))∧w'.cell? ⟨(ad309.add (((ji9)).toNat * 6)).block,(ad309.add (((ji9)).toNat * 6)).off+5,none⟩=some (.slice A312_5 ((Qa l0 (ji9)).f5).length c312_5)) (ds:=[]) (zzB 18 0) (by kernel_rfl) rfl rfl ⟨(zzk BK310.out 0).trans rfl,(zzk BK310.out 1).trans rfl,(zzk BK310.out 2).trans rfl,(zzk BK310.out 3).trans rfl,(zzk BK310.out 4).trans rfl,(zzk BK310.out 5).trans rfl,(zzx HB.out hw312_0),(zzx HB.out hw312_1),(zzx HB.out hw312_2),(zzx HB.out hw312_3),(zzx HB.out hw312_4),(zzx HB.out hw312_5)⟩ (fun hHeld=>?_);refine with_tabW Qn.tab6 Qn.bits6 (fun HT_ HW_=>?_);generalize w17.drew=w18 at BK310 HB HR312_5 hx312_0 hx312_1 hx312_2 hx312_3 hx312_4 hx312_5 hHeld ⊢;refine take_ (i:=0) (N:=some 15) (v:=?_) (a':=?_) (zzB 18 1) rfl rfl (take_ofW HT_.out HW_.out (by kernel_rfl)) (fun _ _ _ h=>h) (Or.inl ⟨by rfl,?_⟩) hHeld ?_ ?_;rotate_left
            ·
             rintro w' ⟨s0,s1,s2,s3,s4,s5,s6,s7,s8,s9,s10,s11⟩;go_simp;with_reducible rfl
            rotate_left
            ·
             simp only [Act.put,zzq,zzr,zzs,i64_w,i32_w];rfl
            refine one_ (i:=1) (N:=some 16) (zzB 18 3) rfl rfl (one_of HT_.out (by kernel_rfl)) (by decide) (fun K hK=>?_);refine goes_ Try.func56 (by kernel_rfl) rfl #[.agg #[.bool ((Qa l0 x10_1).f0),.bool ((Qa l0 x10_1).f1),.int .i64 ((Qa l0 x10_1).f2),.int .i64 ((Qa l0 x10_1).f3),.int .i64 ((Qa l0 x10_1).f4),.slice A309_5 ((Qa l0 x10_1).f5).length c309_5]] (by rfl) rfl rfl zzM2 ?_;with_reducible refine (Qe.calls k1 ((Qa l0 x10_1).f0) ((Qa l0 x10_1).f1) ((Qa l0 x10_1).f2) ((Qa l0 x10_1).f3) ((Qa l0 x10_1).f4) _ _ ((Qa l0 x10_1).f5) true _ ?side1 ?side2 A6.out).mono ?_
            (case side1=>repeat (first|exact (Kd.C_below HR309_5.out HB.out)|(with_reducible refine Kd.C_alloc ?_ _)|(with_reducible refine Kd.C_drewN ?_ _)|(with_reducible refine Kd.C_drew ?_)))
            (case side2=>exact HC309_5.out);rintro e w19 ⟨rfl,hb⟩;refine ⟨_,rfl,?_⟩;have n0_:=zzm (zzh (g:=gb310) (o:=.cells #[.bool ((Qa l0 x10_1).f0),.bool ((Qa l0 x10_1).f1),.int .i64 ((Qa l0 x10_1).f2),.int .i64 ((Qa l0 x10_1).f3),.int .i64 ((Qa l0 x10_1).f4),.slice A309_5 ((Qa l0 x10_1).f5).length c309_5] 34 (0,0)) (zzE BK310.out) hb);have n1_:=zzm (zzp zzh2 hb);clear BK310 HB;have BK310:=n0_;have HB:=n1_;clear n0_ n1_
            (try clear hb)
            (try clear hb2)
            (try clear hk)
            (try clear hi);refine hK.out _ _ ⟨(zzk BK310.out 0).trans rfl,(zzk BK310.out 1).trans rfl,(zzk BK310.out 2).trans rfl,(zzk BK310.out 3).trans rfl,(zzk BK310.out 4).trans rfl,(zzk BK310.out 5).trans rfl,(zzx HB.out hw312_0),(zzx HB.out hw312_1),(zzx HB.out hw312_2),(zzx HB.out hw312_3),(zzx HB.out hw312_4),(zzx HB.out hw312_5)⟩ (fun hHeld=>?_);clear hK K;refine norm_ (a':=?_) ?_ ?_;rotate_left
            ·
             show Act.put _ (some 16) _ = _;simp only [Act.put,zzq,zzr,zzs,i64_w,i32_w];rfl
            refine pure_ (i:=2) (N:=some 17) (v:=?_) (a':=?_) (zzB 18 7) rfl rfl (zzA2 HT_.out) (fun _ _ _ h=>h) (Or.inl ⟨by rfl,?_⟩) ?_ ?_;rotate_left
            ·
             intro w';go_simp;with_reducible rfl
            rotate_left
            ·
             simp only [Act.put,zzq,zzr,zzs,i64_w,i32_w];rfl
            refine pure_ (i:=3) (N:=some 18) (v:=?_) (a':=?_) (zzB 18 15) rfl rfl (zzA2 HT_.out) (fun _ _ _ h=>h) (Or.inl ⟨by rfl,?_⟩) ?_ ?_;rotate_left
            ·
             intro w';go_simp;with_reducible rfl
            rotate_left
            ·
             simp only [Act.put,zzq,zzr,zzs,i64_w,i32_w];rfl
            refine pure_ (i:=4) (N:=some 19) (v:=?_) (a':=?_) (zzB 18 31) rfl rfl (zzA2 HT_.out) (fun _ _ _ h=>h) (Or.inl ⟨by rfl,?_⟩) ?_ ?_;rotate_left
            ·
             intro w';go_simp;with_reducible rfl
            rotate_left
            ·
             simp only [Act.put,zzq,zzr,zzs,i64_w,i32_w];rfl
            refine pure_ (i:=5) (N:=some 20) (v:=?_) (a':=?_) (zzB 18 63) rfl rfl (zzA2 HT_.out) (fun _ _ _ h=>h) (Or.inl ⟨by rfl,?_⟩) ?_ ?_;rotate_left
            ·
             intro w';go_simp;with_reducible rfl
            rotate_left
            ·
             simp only [Act.put,zzq,zzr,zzs,i64_w,i32_w];rfl
            refine pure_ (i:=6) (N:=some 21) (v:=?_) (a':=?_) (zzB 18 127) rfl rfl (zzA2 HT_.out) (fun _ _ _ h=>h) (Or.inl ⟨by rfl,?_⟩) ?_ ?_;rotate_left
            ·
             intro w';go_simp;with_reducible rfl
            rotate_left
            ·
             simp only [Act.put,zzq,zzr,zzs,i64_w,i32_w];rfl
            refine pure_ (i:=7) (N:=some 22) (v:=?_) (a':=?_) (zzB 18 255) rfl rfl (zzA2 HT_.out) (fun _ _ _ h=>h) (Or.inl ⟨by rfl,?_⟩) ?_ ?_;rotate_left
            ·
             intro w';go_simp;with_reducible rfl
            rotate_left
            ·
             simp only [Act.put,zzq,zzr,zzs,i64_w,i32_w];rfl
            refine pure_ (i:=8) (N:=some 23) (v:=?_) (a':=?_) (zzB 18 511) rfl rfl (zzA2 HT_.out) (fun _ _ _ h=>h) (Or.inl ⟨by rfl,?_⟩) ?_ ?_;rotate_left
            ·
             intro w';go_simp;with_reducible rfl
            rotate_left
            ·
             simp only [Act.put,zzq,zzr,zzs,i64_w,i32_w];rfl
            refine pure_ (i:=9) (N:=some 24) (v:=?_) (a':=?_) (zzB 18 1023) rfl rfl (zzA2 HT_.out) (fun _ _ _ h=>h) (Or.inl ⟨by rfl,?_⟩) ?_ ?_;rotate_left
            ·
             intro w';go_simp;with_reducible rfl
            rotate_left
            ·
             simp only [Act.put,zzq,zzr,zzs,i64_w,i32_w];rfl
            refine pure_ (i:=10) (N:=some 25) (v:=?_) (a':=?_) (zzB 18 2047) rfl rfl (zzA2 HT_.out) (fun _ _ _ h=>h) (Or.inl ⟨by rfl,?_⟩) ?_ ?_;rotate_left
            ·
             intro w';go_simp;with_reducible rfl
            rotate_left
            ·
             simp only [Act.put,zzq,zzr,zzs,i64_w,i32_w];rfl
            refine take_ (i:=11) (N:=some 26) (v:=?_) (a':=?_) (zzB 18 4095) rfl rfl (take_ofW HT_.out HW_.out (by kernel_rfl)) (fun _ _ _ h=>h) (Or.inl ⟨by rfl,?_⟩) hHeld ?_ ?_;rotate_left
            ·
             rintro w' ⟨s0,s1,s2,s3,s4,s5,s6,s7,s8,s9,s10,s11⟩;go_simp;with_reducible rfl
            rotate_left
            ·
             simp only [Act.put,zzq,zzr,zzs,i64_w,i32_w];rfl
            refine take_ (i:=13) (N:=some 28) (v:=?_) (a':=?_) (zzB 18 12287) rfl rfl (take_ofW HT_.out HW_.out (by kernel_rfl)) (fun _ _ _ h=>h) (Or.inl ⟨by rfl,?_⟩) hHeld ?_ ?_;rotate_left
            ·
             rintro w' ⟨s0,s1,s2,s3,s4,s5,s6,s7,s8,s9,s10,s11⟩;go_simp;with_reducible rfl
            rotate_left
            ·
             simp only [Act.put,zzq,zzr,zzs,i64_w,i32_w];rfl
            refine one_ (i:=12) (N:=some 27) (zzB 18 16383) rfl rfl (one_of HT_.out (by kernel_rfl)) (by decide) (fun K hK=>?_);refine goes_ Try.func57 (by kernel_rfl) rfl #[.agg #[.bool ((Qa l0 (ji9)).f0),.bool ((Qa l0 (ji9)).f1),.int .i64 ((Qa l0 (ji9)).f2),.int .i64 ((Qa l0 (ji9)).f3),.int .i64 ((Qa l0 (ji9)).f4),.slice A312_5 ((Qa l0 (ji9)).f5).length c312_5]] (by rfl) rfl rfl (by (try simp only [map_toArray,map_cons,map_nil]);first|done|(simp only [hji9];rfl)|rfl|(simp only [length_drop,length_take];rfl)) ?_;with_reducible refine (Q2.calls ((Qa l0 (ji9)).f0) ((Qa l0 (ji9)).f1) ((Qa l0 (ji9)).f2) ((Qa l0 (ji9)).f3) ((Qa l0 (ji9)).f4) _ _ ((Qa l0 (ji9)).f5) t313 _ ?side1 ?side2 A12.out).mono ?_
            (case side1=>repeat (first|exact (Kd.C_below HR312_5.out HB.out)|(with_reducible refine Kd.C_alloc ?_ _)|(with_reducible refine Kd.C_drewN ?_ _)|(with_reducible refine Kd.C_drew ?_)))
            (case side2=>exact HC312_5.out);rintro e w20 ⟨rfl,hb⟩;refine ⟨_,rfl,?_⟩;have n0_:=zzm (zzh (g:=gb310) (o:=.cells #[.bool ((Qa l0 x10_1).f0),.bool ((Qa l0 x10_1).f1),.int .i64 ((Qa l0 x10_1).f2),.int .i64 ((Qa l0 x10_1).f3),.int .i64 ((Qa l0 x10_1).f4),.slice A309_5 ((Qa l0 x10_1).f5).length c309_5] 34 (0,0)) (zzE BK310.out) hb);have n1_:=zzm (zzp zzh2 hb);clear BK310 HB;have BK310:=n0_;have HB:=n1_;clear n0_ n1_
            (try clear hb)
            (try clear hb2)
            (try clear hk)
            (try clear hi);refine hK.out _ _ ⟨(zzk BK310.out 0).trans rfl,(zzk BK310.out 1).trans rfl,(zzk BK310.out 2).trans rfl,(zzk BK310.out 3).trans rfl,(zzk BK310.out 4).trans rfl,(zzk BK310.out 5).trans rfl,(zzx HB.out hw312_0),(zzx HB.out hw312_1),(zzx HB.out hw312_2),(zzx HB.out hw312_3),(zzx HB.out hw312_4),(zzx HB.out hw312_5)⟩ (fun hHeld=>?_);clear hK K;refine norm_ (a':=?_) ?_ ?_;rotate_left
            ·
             show Act.put _ (some 27) _ = _;simp only [Act.put,zzq,zzr,zzs,i64_w,i32_w];rfl
            refine one_ (i:=14) (N:=some 29) (zzB 18 32767) rfl rfl (one_of HT_.out (by kernel_rfl)) (by decide) (fun K hK=>?_);refine goes_ Try.func58 (by kernel_rfl) rfl #[.agg #[.bool ((Qa l0 x10_1).f0),.bool ((Qa l0 x10_1).f1),.int .i64 ((Qa l0 x10_1).f2),.int .i64 ((Qa l0 x10_1).f3),.int .i64 ((Qa l0 x10_1).f4),.slice A309_5 ((Qa l0 x10_1).f5).length c309_5]] (by rfl) rfl rfl zzM2 ?_;with_reducible refine (Q0.calls ((Qa l0 x10_1).f0) ((Qa l0 x10_1).f1) ((Qa l0 x10_1).f2) ((Qa l0 x10_1).f3) ((Qa l0 x10_1).f4) _ _ ((Qa l0 x10_1).f5) t314 _ ?side1 ?side2 A13.out).mono ?_
            (case side1=>repeat (first|exact (Kd.C_below HR309_5.out HB.out)|(with_reducible refine Kd.C_alloc ?_ _)|(with_reducible refine Kd.C_drewN ?_ _)|(with_reducible refine Kd.C_drew ?_)))
            (case side2=>exact HC309_5.out);rintro e w21 ⟨rfl,hb⟩;refine ⟨_,rfl,?_⟩;have n0_:=zzm (zzh (g:=gb310) (o:=.cells #[.bool ((Qa l0 x10_1).f0),.bool ((Qa l0 x10_1).f1),.int .i64 ((Qa l0 x10_1).f2),.int .i64 ((Qa l0 x10_1).f3),.int .i64 ((Qa l0 x10_1).f4),.slice A309_5 ((Qa l0 x10_1).f5).length c309_5] 34 (0,0)) (zzE BK310.out) hb);have n1_:=zzm (zzp zzh2 hb);clear BK310 HB;have BK310:=n0_;have HB:=n1_;clear n0_ n1_
            (try clear hb)
            (try clear hb2)
            (try clear hk)
            (try clear hi);refine hK.out _ _ ⟨(zzk BK310.out 0).trans rfl,(zzk BK310.out 1).trans rfl,(zzk BK310.out 2).trans rfl,(zzk BK310.out 3).trans rfl,(zzk BK310.out 4).trans rfl,(zzk BK310.out 5).trans rfl,(zzx HB.out hw312_0),(zzx HB.out hw312_1),(zzx HB.out hw312_2),(zzx HB.out hw312_3),(zzx HB.out hw312_4),(zzx HB.out hw312_5)⟩ (fun hHeld=>?_);clear hK K;refine norm_ (a':=?_) ?_ ?_;rotate_left
            ·
             show Act.put _ (some 29) _ = _;simp only [Act.put,zzq,zzr,zzs,i64_w,i32_w];rfl
            refine pure_ (i:=15) (N:=some 30) (v:=?_) (a':=?_) (zzB 18 65535) rfl rfl (zzA2 HT_.out) (fun _ _ _ h=>h) (Or.inl ⟨by rfl,?_⟩) ?_ ?_;rotate_left
            ·
             intro w';go_simp;with_reducible rfl
            rotate_left
            ·
             simp only [Act.put,zzq,zzr,zzs,i64_w,i32_w];rfl
            refine pure_ (i:=16) (N:=some 31) (v:=?_) (a':=?_) (zzB 18 131071) rfl rfl (zzA2 HT_.out) (fun _ _ _ h=>h) (Or.inl ⟨by rfl,?_⟩) ?_ ?_;rotate_left
            ·
             intro w';go_simp;with_reducible rfl
            rotate_left
            ·
             simp only [Act.put,zzq,zzr,zzs,i64_w,i32_w];rfl
            refine pure_ (i:=17) (N:=some 32) (v:=?_) (a':=?_) (zzB 18 262143) rfl rfl (zzA2 HT_.out) (fun _ _ _ h=>h) (Or.inl ⟨by rfl,?_⟩) ?_ ?_;rotate_left
            ·
             intro w';go_simp;with_reducible rfl
            rotate_left
            ·
             simp only [Act.put,zzq,zzr,zzs,i64_w,i32_w];rfl
            refine done_ (done_of HT_.out (by kernel_rfl)) ?_;try go_wp2
            go_ret;exact ⟨by first|rfl|(simp [errW_none,errW_some] <;> rfl)|(simp only [← hji9];first|rfl|(simp [errW_none,errW_some] <;> rfl))|(simp [*,errW_none,errW_some] <;> rfl),by repeat (first|(with_reducible first|exact HB.out|apply zza|apply zzb|apply zzc|refine zzd ?_ GE310.out)|exact HB.out)⟩
           ·
            rw [if_neg c14] at H;have c14b0:decide (t314≤t313)=false:=decide_eq_false c14;clear c14;have H':=zzm H;clear H;have p309 : 0≤(x10_1:Int):=zzt;have q309:x10_1 < (l0.length:Int):=zzt;obtain ⟨ad309,A309_5,c309_5,e309,hx309_0,hx309_1,hx309_2,hx309_3,hx309_4,hx309_5,hl309_5,hi309_5⟩:=Qw HR0.out x10_1 p309 q309;cases e309;replace hx309_0:=zzx HB.out hx309_0;replace hx309_1:=zzx HB.out hx309_1;replace hx309_2:=zzx HB.out hx309_2;replace hx309_3:=zzx HB.out hx309_3;replace hx309_4:=zzx HB.out hx309_4;replace hx309_5:=zzx HB.out hx309_5;have HR309_5:=zzm hi309_5;have HC309_5:=zzm hl309_5;clear hi309_5 hl309_5;replace p309:=eq_true p309;replace q309:=eq_true q309;try go_wp2_with (first|((with_reducible refine gate_dst (N:=4) rfl ?_);refine box_event ?hg (N:=4) ?hd (cs:=#[.bool false,.bool false,.int .i64 0,.int .i64 0,.int .i64 0,.slice none 0 0]) (t:=34) ?hr ?_;(case hd=>rfl);(case hg=>rfl);(case hr=>first|(go_simp;done)|(go_simp;rfl));intro gb310 hg w22 hbox hb;have n0_:=zzm (zzp zzh1 hb);have n1_:=zzm (hbox);have n2_:=zzm ((by rw [hg];exact (zzo zzh1):w.heap.size≤gb310));have n3_:=zzm ((by rw [hg];exact (zzo zzh1):w.heap.size≤gb310));clear HB;have HB:=n0_;have BK310:=n1_;have GW310:=n2_;have GE310:=n3_;clear n0_ n1_ n2_ n3_ hb hbox hg;obtain ⟨hcz23_0,hcz23_1,hcz23_2,hcz23_3,hcz23_4,hcz23_5,hfz23_0,hfz23_1,hfz23_2,hfz23_3,hfz23_4,hfz23_5⟩:=zzc6 BK310.out))
            have n0_:Aside0 (((((((w22.setCell ⟨gb310,0,none⟩ (.bool ((Qa l0 x10_1).f0))).setCell ⟨gb310,1,none⟩ (.bool ((Qa l0 x10_1).f1))).setCell ⟨gb310,2,none⟩ (.int .i64 ((Qa l0 x10_1).f2))).setCell ⟨gb310,3,none⟩ (.int .i64 ((Qa l0 x10_1).f3))).setCell ⟨gb310,4,none⟩ (.int .i64 ((Qa l0 x10_1).f4))).setCell ⟨gb310,5,none⟩ (.slice A309_5 ((Qa l0 x10_1).f5).length c309_5)).heap[gb310]? = some (.cells #[.bool ((Qa l0 x10_1).f0),.bool ((Qa l0 x10_1).f1),.int .i64 ((Qa l0 x10_1).f2),.int .i64 ((Qa l0 x10_1).f3),.int .i64 ((Qa l0 x10_1).f4),.slice A309_5 ((Qa l0 x10_1).f5).length c309_5] 34 (0,0))):=⟨by (with_reducible repeat (first|apply zzf|apply zzg|apply zze));refine zzi (cs:=#[.bool ((Qa l0 x10_1).f0),.bool ((Qa l0 x10_1).f1),.int .i64 ((Qa l0 x10_1).f2),.int .i64 ((Qa l0 x10_1).f3),.int .i64 ((Qa l0 x10_1).f4),.slice none 0 0]) ?_ 5 _ rfl;(with_reducible repeat (first|apply zzf|apply zzg|apply zze));refine zzi (cs:=#[.bool ((Qa l0 x10_1).f0),.bool ((Qa l0 x10_1).f1),.int .i64 ((Qa l0 x10_1).f2),.int .i64 ((Qa l0 x10_1).f3),.int .i64 0,.slice none 0 0]) ?_ 4 _ rfl;(with_reducible repeat (first|apply zzf|apply zzg|apply zze));refine zzi (cs:=#[.bool ((Qa l0 x10_1).f0),.bool ((Qa l0 x10_1).f1),.int .i64 ((Qa l0 x10_1).f2),.int .i64 0,.int .i64 0,.slice none 0 0]) ?_ 3 _ rfl;(with_reducible repeat (first|apply zzf|apply zzg|apply zze));refine zzi (cs:=#[.bool ((Qa l0 x10_1).f0),.bool ((Qa l0 x10_1).f1),.int .i64 0,.int .i64 0,.int .i64 0,.slice none 0 0]) ?_ 2 _ rfl;(with_reducible repeat (first|apply zzf|apply zzg|apply zze));refine zzi (cs:=#[.bool ((Qa l0 x10_1).f0),.bool false,.int .i64 0,.int .i64 0,.int .i64 0,.slice none 0 0]) ?_ 1 _ rfl;(with_reducible repeat (first|apply zzf|apply zzg|apply zze));refine zzi (cs:=#[.bool false,.bool false,.int .i64 0,.int .i64 0,.int .i64 0,.slice none 0 0]) ?_ 0 _ rfl;(with_reducible repeat (first|apply zzf|apply zzg|apply zze));exact BK310.out⟩;have n1_:Aside0 (Below w.heap.size w ((((((w22.setCell ⟨gb310,0,none⟩ (.bool ((Qa l0 x10_1).f0))).setCell ⟨gb310,1,none⟩ (.bool ((Qa l0 x10_1).f1))).setCell ⟨gb310,2,none⟩ (.int .i64 ((Qa l0 x10_1).f2))).setCell ⟨gb310,3,none⟩ (.int .i64 ((Qa l0 x10_1).f3))).setCell ⟨gb310,4,none⟩ (.int .i64 ((Qa l0 x10_1).f4))).setCell ⟨gb310,5,none⟩ (.slice A309_5 ((Qa l0 x10_1).f5).length c309_5))):=⟨by repeat (first|(with_reducible first|exact HB.out|apply zza|apply zzb|apply zzc|refine zzd ?_ GE310.out)|exact HB.out)⟩
            (try clear BK310)
            (try clear HB);generalize ((((((w22.setCell ⟨gb310,0,none⟩ (.bool ((Qa l0 x10_1).f0))).setCell ⟨gb310,1,none⟩ (.bool ((Qa l0 x10_1).f1))).setCell ⟨gb310,2,none⟩ (.int .i64 ((Qa l0 x10_1).f2))).setCell ⟨gb310,3,none⟩ (.int .i64 ((Qa l0 x10_1).f3))).setCell ⟨gb310,4,none⟩ (.int .i64 ((Qa l0 x10_1).f4))).setCell ⟨gb310,5,none⟩ (.slice A309_5 ((Qa l0 x10_1).f5).length c309_5))=w24 at n0_ n1_ ⊢;have BK310:=n0_;have HB:=n1_;clear n0_ n1_;have n0_:=zzm (zzg BK310.out);have n1_:=zzm (zzc HB.out);clear BK310 HB;have BK310:=n0_;have HB:=n1_;clear n0_ n1_;have p312 : 0≤((ji9):Int):=zzt;have q312:(ji9) < (l0.length:Int):=zzt;obtain ⟨ad312,A312_5,c312_5,e312,hx312_0,hx312_1,hx312_2,hx312_3,hx312_4,hx312_5,hl312_5,hi312_5⟩:=Qw HR0.out (ji9) p312 q312;have hw312_5:=hx312_5;have hw312_4:=hx312_4;have hw312_3:=hx312_3;have hw312_2:=hx312_2;have hw312_1:=hx312_1;have hw312_0:=hx312_0;obtain rfl:ad309=ad312:=(by injection e312);replace hx312_0:=zzx HB.out hx312_0;replace hx312_1:=zzx HB.out hx312_1;replace hx312_2:=zzx HB.out hx312_2;replace hx312_3:=zzx HB.out hx312_3;replace hx312_4:=zzx HB.out hx312_4;replace hx312_5:=zzx HB.out hx312_5;have HR312_5:=zzm hi312_5;have HC312_5:=zzm hl312_5;clear hi312_5 hl312_5;replace p312:=eq_true p312;replace q312:=eq_true q312;refine start_ (n:=18) (S:=fun w'=>w'.cell? ⟨gb310,0,none⟩=some (.bool ((Qa l0 x10_1).f0))∧w'.cell? ⟨gb310,1,none⟩=some (.bool ((Qa l0 x10_1).f1))∧w'.cell? ⟨gb310,2,none⟩=some (.int .i64 ((Qa l0 x10_1).f2))∧w'.cell? ⟨gb310,3,none⟩=some (.int .i64 ((Qa l0 x10_1).f3))∧w'.cell? ⟨gb310,4,none⟩=some (.int .i64 ((Qa l0 x10_1).f4))∧w'.cell? ⟨gb310,5,none⟩=some (.slice A309_5 ((Qa l0 x10_1).f5).length c309_5)∧w'.cell? (ad309.add (((ji9)).toNat * 6))=some (.bool ((Qa l0 (ji9)).f0))∧w'.cell? ⟨(ad309.add (((ji9)).toNat * 6)).block,(ad309.add (((ji9)).toNat * 6)).off+1,none⟩=some (.bool ((Qa l0 (ji9)).f1))∧w'.cell? ⟨(ad309.add (((ji9)).toNat * 6)).block,(ad309.add (((ji9)).toNat * 6)).off+2,none⟩=some (.int .i64 ((Qa l0 (ji9)).f2))∧w'.cell? ⟨(ad309.add (((ji9)).toNat * 6)).block,(ad309.add (((ji9)).toNat * 6)).off+3,none⟩=some (.int .i64 ((Qa l0 (ji9)).f3))∧w'.cell? ⟨(ad309.add (((ji9)).toNat * 6)).block,(ad309.add (((ji9)).toNat * 6)).off+4,none⟩=some (.int .i64 ((Qa l0 (ji9)).f4))∧w'.cell? ⟨(ad309.add (((ji9)).toNat * 6)).block,(ad309.add (((ji9)).toNat * 6)).off+5,none⟩=some (.slice A312_5 ((Qa l0 (ji9)).f5).length c312_5)) (ds:=[]) (zzB 18 0) (by kernel_rfl) rfl rfl ⟨(zzk BK310.out 0).trans rfl,(zzk BK310.out 1).trans rfl,(zzk BK310.out 2).trans rfl,(zzk BK310.out 3).trans rfl,(zzk BK310.out 4).trans rfl,(zzk BK310.out 5).trans rfl,(zzx HB.out hw312_0),(zzx HB.out hw312_1),(zzx HB.out hw312_2),(zzx HB.out hw312_3),(zzx HB.out hw312_4),(zzx HB.out hw312_5)⟩ (fun hHeld=>?_);refine with_tabW Qn.tab6 Qn.bits6 (fun HT_ HW_=>?_);generalize w24.drew=w25 at BK310 HB HR312_5 hx312_0 hx312_1 hx312_2 hx312_3 hx312_4 hx312_5 hHeld ⊢;refine take_ (i:=0) (N:=some 15) (v:=?_) (a':=?_) (zzB 18 1) rfl rfl (take_ofW HT_.out HW_.out (by kernel_rfl)) (fun _ _ _ h=>h) (Or.inl ⟨by rfl,?_⟩) hHeld ?_ ?_;rotate_left
            ·
             rintro w' ⟨s0,s1,s2,s3,s4,s5,s6,s7,s8,s9,s10,s11⟩;go_simp;with_reducible rfl
            rotate_left
            ·
             simp only [Act.put,zzq,zzr,zzs,i64_w,i32_w];rfl
            refine one_ (i:=1) (N:=some 16) (zzB 18 3) rfl rfl (one_of HT_.out (by kernel_rfl)) (by decide) (fun K hK=>?_);refine goes_ Try.func56 (by kernel_rfl) rfl #[.agg #[.bool ((Qa l0 x10_1).f0),.bool ((Qa l0 x10_1).f1),.int .i64 ((Qa l0 x10_1).f2),.int .i64 ((Qa l0 x10_1).f3),.int .i64 ((Qa l0 x10_1).f4),.slice A309_5 ((Qa l0 x10_1).f5).length c309_5]] (by rfl) rfl rfl zzM2 ?_;with_reducible refine (Qe.calls k1 ((Qa l0 x10_1).f0) ((Qa l0 x10_1).f1) ((Qa l0 x10_1).f2) ((Qa l0 x10_1).f3) ((Qa l0 x10_1).f4) _ _ ((Qa l0 x10_1).f5) true _ ?side1 ?side2 A6.out).mono ?_
            (case side1=>repeat (first|exact (Kd.C_below HR309_5.out HB.out)|(with_reducible refine Kd.C_alloc ?_ _)|(with_reducible refine Kd.C_drewN ?_ _)|(with_reducible refine Kd.C_drew ?_)))
            (case side2=>exact HC309_5.out);rintro e w26 ⟨rfl,hb⟩;refine ⟨_,rfl,?_⟩;have n0_:=zzm (zzh (g:=gb310) (o:=.cells #[.bool ((Qa l0 x10_1).f0),.bool ((Qa l0 x10_1).f1),.int .i64 ((Qa l0 x10_1).f2),.int .i64 ((Qa l0 x10_1).f3),.int .i64 ((Qa l0 x10_1).f4),.slice A309_5 ((Qa l0 x10_1).f5).length c309_5] 34 (0,0)) (zzE BK310.out) hb);have n1_:=zzm (zzp zzh2 hb);clear BK310 HB;have BK310:=n0_;have HB:=n1_;clear n0_ n1_
            (try clear hb)
            (try clear hb2)
            (try clear hk)
            (try clear hi);refine hK.out _ _ ⟨(zzk BK310.out 0).trans rfl,(zzk BK310.out 1).trans rfl,(zzk BK310.out 2).trans rfl,(zzk BK310.out 3).trans rfl,(zzk BK310.out 4).trans rfl,(zzk BK310.out 5).trans rfl,(zzx HB.out hw312_0),(zzx HB.out hw312_1),(zzx HB.out hw312_2),(zzx HB.out hw312_3),(zzx HB.out hw312_4),(zzx HB.out hw312_5)⟩ (fun hHeld=>?_);clear hK K;refine norm_ (a':=?_) ?_ ?_;rotate_left
            ·
             show Act.put _ (some 16) _ = _;simp only [Act.put,zzq,zzr,zzs,i64_w,i32_w];rfl
            refine pure_ (i:=2) (N:=some 17) (v:=?_) (a':=?_) (zzB 18 7) rfl rfl (zzA2 HT_.out) (fun _ _ _ h=>h) (Or.inl ⟨by rfl,?_⟩) ?_ ?_;rotate_left
            ·
             intro w';go_simp;with_reducible rfl
            rotate_left
            ·
             simp only [Act.put,zzq,zzr,zzs,i64_w,i32_w];rfl
            refine pure_ (i:=3) (N:=some 18) (v:=?_) (a':=?_) (zzB 18 15) rfl rfl (zzA2 HT_.out) (fun _ _ _ h=>h) (Or.inl ⟨by rfl,?_⟩) ?_ ?_;rotate_left
            ·
             intro w';go_simp;with_reducible rfl
            rotate_left
            ·
             simp only [Act.put,zzq,zzr,zzs,i64_w,i32_w];rfl
            refine pure_ (i:=4) (N:=some 19) (v:=?_) (a':=?_) (zzB 18 31) rfl rfl (zzA2 HT_.out) (fun _ _ _ h=>h) (Or.inl ⟨by rfl,?_⟩) ?_ ?_;rotate_left
            ·
             intro w';go_simp;with_reducible rfl
            rotate_left
            ·
             simp only [Act.put,zzq,zzr,zzs,i64_w,i32_w];rfl
            refine pure_ (i:=5) (N:=some 20) (v:=?_) (a':=?_) (zzB 18 63) rfl rfl (zzA2 HT_.out) (fun _ _ _ h=>h) (Or.inl ⟨by rfl,?_⟩) ?_ ?_;rotate_left
            ·
             intro w';go_simp;with_reducible rfl
            rotate_left
            ·
             simp only [Act.put,zzq,zzr,zzs,i64_w,i32_w];rfl
            refine pure_ (i:=6) (N:=some 21) (v:=?_) (a':=?_) (zzB 18 127) rfl rfl (zzA2 HT_.out) (fun _ _ _ h=>h) (Or.inl ⟨by rfl,?_⟩) ?_ ?_;rotate_left
            ·
             intro w';go_simp;with_reducible rfl
            rotate_left
            ·
             simp only [Act.put,zzq,zzr,zzs,i64_w,i32_w];rfl
            refine pure_ (i:=7) (N:=some 22) (v:=?_) (a':=?_) (zzB 18 255) rfl rfl (zzA2 HT_.out) (fun _ _ _ h=>h) (Or.inl ⟨by rfl,?_⟩) ?_ ?_;rotate_left
            ·
             intro w';go_simp;with_reducible rfl
            rotate_left
            ·
             simp only [Act.put,zzq,zzr,zzs,i64_w,i32_w];rfl
            refine pure_ (i:=8) (N:=some 23) (v:=?_) (a':=?_) (zzB 18 511) rfl rfl (zzA2 HT_.out) (fun _ _ _ h=>h) (Or.inl ⟨by rfl,?_⟩) ?_ ?_;rotate_left
            ·
             intro w';go_simp;with_reducible rfl
            rotate_left
            ·
             simp only [Act.put,zzq,zzr,zzs,i64_w,i32_w];rfl
            refine pure_ (i:=9) (N:=some 24) (v:=?_) (a':=?_) (zzB 18 1023) rfl rfl (zzA2 HT_.out) (fun _ _ _ h=>h) (Or.inl ⟨by rfl,?_⟩) ?_ ?_;rotate_left
            ·
             intro w';go_simp;with_reducible rfl
            rotate_left
            ·
             simp only [Act.put,zzq,zzr,zzs,i64_w,i32_w];rfl
            refine pure_ (i:=10) (N:=some 25) (v:=?_) (a':=?_) (zzB 18 2047) rfl rfl (zzA2 HT_.out) (fun _ _ _ h=>h) (Or.inl ⟨by rfl,?_⟩) ?_ ?_;rotate_left
            ·
             intro w';go_simp;with_reducible rfl
            rotate_left
            ·
             simp only [Act.put,zzq,zzr,zzs,i64_w,i32_w];rfl
            refine take_ (i:=11) (N:=some 26) (v:=?_) (a':=?_) (zzB 18 4095) rfl rfl (take_ofW HT_.out HW_.out (by kernel_rfl)) (fun _ _ _ h=>h) (Or.inl ⟨by rfl,?_⟩) hHeld ?_ ?_;rotate_left
            ·
             rintro w' ⟨s0,s1,s2,s3,s4,s5,s6,s7,s8,s9,s10,s11⟩;go_simp;with_reducible rfl
            rotate_left
            ·
             simp only [Act.put,zzq,zzr,zzs,i64_w,i32_w];rfl
            refine take_ (i:=13) (N:=some 28) (v:=?_) (a':=?_) (zzB 18 12287) rfl rfl (take_ofW HT_.out HW_.out (by kernel_rfl)) (fun _ _ _ h=>h) (Or.inl ⟨by rfl,?_⟩) hHeld ?_ ?_;rotate_left
            ·
             rintro w' ⟨s0,s1,s2,s3,s4,s5,s6,s7,s8,s9,s10,s11⟩;go_simp;with_reducible rfl
            rotate_left
            ·
             simp only [Act.put,zzq,zzr,zzs,i64_w,i32_w];rfl
            refine one_ (i:=12) (N:=some 27) (zzB 18 16383) rfl rfl (one_of HT_.out (by kernel_rfl)) (by decide) (fun K hK=>?_);refine goes_ Try.func57 (by kernel_rfl) rfl #[.agg #[.bool ((Qa l0 (ji9)).f0),.bool ((Qa l0 (ji9)).f1),.int .i64 ((Qa l0 (ji9)).f2),.int .i64 ((Qa l0 (ji9)).f3),.int .i64 ((Qa l0 (ji9)).f4),.slice A312_5 ((Qa l0 (ji9)).f5).length c312_5]] (by rfl) rfl rfl (by (try simp only [map_toArray,map_cons,map_nil]);first|done|(simp only [hji9];rfl)|rfl|(simp only [length_drop,length_take];rfl)) ?_;with_reducible refine (Q2.calls ((Qa l0 (ji9)).f0) ((Qa l0 (ji9)).f1) ((Qa l0 (ji9)).f2) ((Qa l0 (ji9)).f3) ((Qa l0 (ji9)).f4) _ _ ((Qa l0 (ji9)).f5) t313 _ ?side1 ?side2 A12.out).mono ?_
            (case side1=>repeat (first|exact (Kd.C_below HR312_5.out HB.out)|(with_reducible refine Kd.C_alloc ?_ _)|(with_reducible refine Kd.C_drewN ?_ _)|(with_reducible refine Kd.C_drew ?_)))
            (case side2=>exact HC312_5.out);rintro e w27 ⟨rfl,hb⟩;refine ⟨_,rfl,?_⟩;have n0_:=zzm (zzh (g:=gb310) (o:=.cells #[.bool ((Qa l0 x10_1).f0),.bool ((Qa l0 x10_1).f1),.int .i64 ((Qa l0 x10_1).f2),.int .i64 ((Qa l0 x10_1).f3),.int .i64 ((Qa l0 x10_1).f4),.slice A309_5 ((Qa l0 x10_1).f5).length c309_5] 34 (0,0)) (zzE BK310.out) hb);have n1_:=zzm (zzp zzh2 hb);clear BK310 HB;have BK310:=n0_;have HB:=n1_;clear n0_ n1_
            (try clear hb)
            (try clear hb2)
            (try clear hk)
            (try clear hi);refine hK.out _ _ ⟨(zzk BK310.out 0).trans rfl,(zzk BK310.out 1).trans rfl,(zzk BK310.out 2).trans rfl,(zzk BK310.out 3).trans rfl,(zzk BK310.out 4).trans rfl,(zzk BK310.out 5).trans rfl,(zzx HB.out hw312_0),(zzx HB.out hw312_1),(zzx HB.out hw312_2),(zzx HB.out hw312_3),(zzx HB.out hw312_4),(zzx HB.out hw312_5)⟩ (fun hHeld=>?_);clear hK K;refine norm_ (a':=?_) ?_ ?_;rotate_left
            ·
             show Act.put _ (some 27) _ = _;simp only [Act.put,zzq,zzr,zzs,i64_w,i32_w];rfl
            refine one_ (i:=14) (N:=some 29) (zzB 18 32767) rfl rfl (one_of HT_.out (by kernel_rfl)) (by decide) (fun K hK=>?_);refine goes_ Try.func58 (by kernel_rfl) rfl #[.agg #[.bool ((Qa l0 x10_1).f0),.bool ((Qa l0 x10_1).f1),.int .i64 ((Qa l0 x10_1).f2),.int .i64 ((Qa l0 x10_1).f3),.int .i64 ((Qa l0 x10_1).f4),.slice A309_5 ((Qa l0 x10_1).f5).length c309_5]] (by rfl) rfl rfl zzM2 ?_;with_reducible refine (Q0.calls ((Qa l0 x10_1).f0) ((Qa l0 x10_1).f1) ((Qa l0 x10_1).f2) ((Qa l0 x10_1).f3) ((Qa l0 x10_1).f4) _ _ ((Qa l0 x10_1).f5) t314 _ ?side1 ?side2 A13.out).mono ?_
            (case side1=>repeat (first|exact (Kd.C_below HR309_5.out HB.out)|(with_reducible refine Kd.C_alloc ?_ _)|(with_reducible refine Kd.C_drewN ?_ _)|(with_reducible refine Kd.C_drew ?_)))
            (case side2=>exact HC309_5.out);rintro e w28 ⟨rfl,hb⟩;refine ⟨_,rfl,?_⟩;have n0_:=zzm (zzh (g:=gb310) (o:=.cells #[.bool ((Qa l0 x10_1).f0),.bool ((Qa l0 x10_1).f1),.int .i64 ((Qa l0 x10_1).f2),.int .i64 ((Qa l0 x10_1).f3),.int .i64 ((Qa l0 x10_1).f4),.slice A309_5 ((Qa l0 x10_1).f5).length c309_5] 34 (0,0)) (zzE BK310.out) hb);have n1_:=zzm (zzp zzh2 hb);clear BK310 HB;have BK310:=n0_;have HB:=n1_;clear n0_ n1_
            (try clear hb)
            (try clear hb2)
            (try clear hk)
            (try clear hi);refine hK.out _ _ ⟨(zzk BK310.out 0).trans rfl,(zzk BK310.out 1).trans rfl,(zzk BK310.out 2).trans rfl,(zzk BK310.out 3).trans rfl,(zzk BK310.out 4).trans rfl,(zzk BK310.out 5).trans rfl,(zzx HB.out hw312_0),(zzx HB.out hw312_1),(zzx HB.out hw312_2),(zzx HB.out hw312_3),(zzx HB.out hw312_4),(zzx HB.out hw312_5)⟩ (fun hHeld=>?_);clear hK K;refine norm_ (a':=?_) ?_ ?_;rotate_left
            ·
             show Act.put _ (some 29) _ = _;simp only [Act.put,zzq,zzr,zzs,i64_w,i32_w];rfl
            refine pure_ (i:=15) (N:=some 30) (v:=?_) (a':=?_) (zzB 18 65535) rfl rfl (zzA2 HT_.out) (fun _ _ _ h=>h) (Or.inl ⟨by rfl,?_⟩) ?_ ?_;rotate_left
            ·
             intro w';go_simp;with_reducible rfl
            rotate_left
            ·
             simp only [Act.put,zzq,zzr,zzs,i64_w,i32_w];rfl
            refine pure_ (i:=16) (N:=some 31) (v:=?_) (a':=?_) (zzB 18 131071) rfl rfl (zzA2 HT_.out) (fun _ _ _ h=>h) (Or.inl ⟨by rfl,?_⟩) ?_ ?_;rotate_left
            ·
             intro w';go_simp;with_reducible rfl
            rotate_left
            ·
             simp only [Act.put,zzq,zzr,zzs,i64_w,i32_w];rfl
            refine pure_ (i:=17) (N:=some 32) (v:=?_) (a':=?_) (zzB 18 262143) rfl rfl (zzA2 HT_.out) (fun _ _ _ h=>h) (Or.inl ⟨by rfl,?_⟩) ?_ ?_;rotate_left
            ·
             intro w';go_simp;with_reducible rfl
            rotate_left
            ·
             simp only [Act.put,zzq,zzr,zzs,i64_w,i32_w];rfl
            refine done_ (done_of HT_.out (by kernel_rfl)) ?_;try go_wp2
            go_roundg k1
            case measure=>have:=HK1.out;omega
            case rel=>exact ⟨(wrap64 (x10_1+1)),(by first|rfl|(simp;done)|(simp [*];done)),H',⟨by have:=HK1.out;omega⟩,⟨by repeat (first|(with_reducible first|exact HB.out|apply zza|apply zzb|apply zzc|refine zzd ?_ GE310.out)|exact HB.out)⟩⟩
          ·
           rw [if_neg c11] at H;exact absurd H (by simp)
         ·
          rw [if_neg c10] at H;exact absurd H (by simp)
        ·
         rw [if_neg c8] at H;have c8b0:decide (0 < x10_1)=false:=decide_eq_false c8;clear c8;have H':=zzm H;clear H;have p309 : 0≤(x10_1:Int):=zzt;have q309:x10_1 < (l0.length:Int):=zzt;obtain ⟨ad309,A309_5,c309_5,e309,hx309_0,hx309_1,hx309_2,hx309_3,hx309_4,hx309_5,hl309_5,hi309_5⟩:=Qw HR0.out x10_1 p309 q309;cases e309;replace hx309_0:=zzx HB.out hx309_0;replace hx309_1:=zzx HB.out hx309_1;replace hx309_2:=zzx HB.out hx309_2;replace hx309_3:=zzx HB.out hx309_3;replace hx309_4:=zzx HB.out hx309_4;replace hx309_5:=zzx HB.out hx309_5;have HR309_5:=zzm hi309_5;have HC309_5:=zzm hl309_5;clear hi309_5 hl309_5;replace p309:=eq_true p309;replace q309:=eq_true q309;try go_wp2_with (first|((with_reducible refine gate_dst (N:=4) rfl ?_);refine box_event ?hg (N:=4) ?hd (cs:=#[.bool false,.bool false,.int .i64 0,.int .i64 0,.int .i64 0,.slice none 0 0]) (t:=34) ?hr ?_;(case hd=>rfl);(case hg=>rfl);(case hr=>first|(go_simp;done)|(go_simp;rfl));intro gb310 hg w29 hbox hb;have n0_:=zzm (zzp zzh1 hb);have n1_:=zzm (hbox);have n2_:=zzm ((by rw [hg];exact (zzo zzh1):w.heap.size≤gb310));have n3_:=zzm ((by rw [hg];exact (zzo zzh1):w.heap.size≤gb310));clear HB;have HB:=n0_;have BK310:=n1_;have GW310:=n2_;have GE310:=n3_;clear n0_ n1_ n2_ n3_ hb hbox hg;obtain ⟨hcz30_0,hcz30_1,hcz30_2,hcz30_3,hcz30_4,hcz30_5,hfz30_0,hfz30_1,hfz30_2,hfz30_3,hfz30_4,hfz30_5⟩:=zzc6 BK310.out))
         have n0_:Aside0 (((((((w29.setCell ⟨gb310,0,none⟩ (.bool ((Qa l0 x10_1).f0))).setCell ⟨gb310,1,none⟩ (.bool ((Qa l0 x10_1).f1))).setCell ⟨gb310,2,none⟩ (.int .i64 ((Qa l0 x10_1).f2))).setCell ⟨gb310,3,none⟩ (.int .i64 ((Qa l0 x10_1).f3))).setCell ⟨gb310,4,none⟩ (.int .i64 ((Qa l0 x10_1).f4))).setCell ⟨gb310,5,none⟩ (.slice A309_5 ((Qa l0 x10_1).f5).length c309_5)).heap[gb310]? = some (.cells #[.bool ((Qa l0 x10_1).f0),.bool ((Qa l0 x10_1).f1),.int .i64 ((Qa l0 x10_1).f2),.int .i64 ((Qa l0 x10_1).f3),.int .i64 ((Qa l0 x10_1).f4),.slice A309_5 ((Qa l0 x10_1).f5).length c309_5] 34 (0,0))):=⟨by (with_reducible repeat (first|apply zzf|apply zzg|apply zze));refine zzi (cs:=#[.bool ((Qa l0 x10_1).f0),.bool ((Qa l0 x10_1).f1),.int .i64 ((Qa l0 x10_1).f2),.int .i64 ((Qa l0 x10_1).f3),.int .i64 ((Qa l0 x10_1).f4),.slice none 0 0]) ?_ 5 _ rfl;(with_reducible repeat (first|apply zzf|apply zzg|apply zze));refine zzi (cs:=#[.bool ((Qa l0 x10_1).f0),.bool ((Qa l0 x10_1).f1),.int .i64 ((Qa l0 x10_1).f2),.int .i64 ((Qa l0 x10_1).f3),.int .i64 0,.slice none 0 0]) ?_ 4 _ rfl;(with_reducible repeat (first|apply zzf|apply zzg|apply zze));refine zzi (cs:=#[.bool ((Qa l0 x10_1).f0),.bool ((Qa l0 x10_1).f1),.int .i64 ((Qa l0 x10_1).f2),.int .i64 0,.int .i64 0,.slice none 0 0]) ?_ 3 _ rfl;(with_reducible repeat (first|apply zzf|apply zzg|apply zze));refine zzi (cs:=#[.bool ((Qa l0 x10_1).f0),.bool ((Qa l0 x10_1).f1),.int .i64 0,.int .i64 0,.int .i64 0,.slice none 0 0]) ?_ 2 _ rfl;(with_reducible repeat (first|apply zzf|apply zzg|apply zze));refine zzi (cs:=#[.bool ((Qa l0 x10_1).f0),.bool false,.int .i64 0,.int .i64 0,.int .i64 0,.slice none 0 0]) ?_ 1 _ rfl;(with_reducible repeat (first|apply zzf|apply zzg|apply zze));refine zzi (cs:=#[.bool false,.bool false,.int .i64 0,.int .i64 0,.int .i64 0,.slice none 0 0]) ?_ 0 _ rfl;(with_reducible repeat (first|apply zzf|apply zzg|apply zze));exact BK310.out⟩;have n1_:Aside0 (Below w.heap.size w ((((((w29.setCell ⟨gb310,0,none⟩ (.bool ((Qa l0 x10_1).f0))).setCell ⟨gb310,1,none⟩ (.bool ((Qa l0 x10_1).f1))).setCell ⟨gb310,2,none⟩ (.int .i64 ((Qa l0 x10_1).f2))).setCell ⟨gb310,3,none⟩ (.int .i64 ((Qa l0 x10_1).f3))).setCell ⟨gb310,4,none⟩ (.int .i64 ((Qa l0 x10_1).f4))).setCell ⟨gb310,5,none⟩ (.slice A309_5 ((Qa l0 x10_1).f5).length c309_5))):=⟨by repeat (first|(with_reducible first|exact HB.out|apply zza|apply zzb|apply zzc|refine zzd ?_ GE310.out)|exact HB.out)⟩
         (try clear BK310)
         (try clear HB);generalize ((((((w29.setCell ⟨gb310,0,none⟩ (.bool ((Qa l0 x10_1).f0))).setCell ⟨gb310,1,none⟩ (.bool ((Qa l0 x10_1).f1))).setCell ⟨gb310,2,none⟩ (.int .i64 ((Qa l0 x10_1).f2))).setCell ⟨gb310,3,none⟩ (.int .i64 ((Qa l0 x10_1).f3))).setCell ⟨gb310,4,none⟩ (.int .i64 ((Qa l0 x10_1).f4))).setCell ⟨gb310,5,none⟩ (.slice A309_5 ((Qa l0 x10_1).f5).length c309_5))=w31 at n0_ n1_ ⊢;have BK310:=n0_;have HB:=n1_;clear n0_ n1_;have n0_:=zzm (zzg BK310.out);have n1_:=zzm (zzc HB.out);clear BK310 HB;have BK310:=n0_;have HB:=n1_;clear n0_ n1_;refine start_ (n:=18) (S:=fun w'=>w'.cell? ⟨gb310,0,none⟩=some (.bool ((Qa l0 x10_1).f0))∧w'.cell? ⟨gb310,1,none⟩=some (.bool ((Qa l0 x10_1).f1))∧w'.cell? ⟨gb310,2,none⟩=some (.int .i64 ((Qa l0 x10_1).f2))∧w'.cell? ⟨gb310,3,none⟩=some (.int .i64 ((Qa l0 x10_1).f3))∧w'.cell? ⟨gb310,4,none⟩=some (.int .i64 ((Qa l0 x10_1).f4))∧w'.cell? ⟨gb310,5,none⟩=some (.slice A309_5 ((Qa l0 x10_1).f5).length c309_5)) (ds:=[]) (zzB 18 0) (by kernel_rfl) rfl rfl ⟨(zzk BK310.out 0).trans rfl,(zzk BK310.out 1).trans rfl,(zzk BK310.out 2).trans rfl,(zzk BK310.out 3).trans rfl,(zzk BK310.out 4).trans rfl,(zzk BK310.out 5).trans rfl⟩ (fun hHeld=>?_);refine with_tabW Qn.tab6 Qn.bits6 (fun HT_ HW_=>?_);generalize w31.drew=w32 at BK310 HB hHeld ⊢;refine take_ (i:=0) (N:=some 15) (v:=?_) (a':=?_) (zzB 18 1) rfl rfl (take_ofW HT_.out HW_.out (by kernel_rfl)) (fun _ _ _ h=>h) (Or.inl ⟨by rfl,?_⟩) hHeld ?_ ?_;rotate_left
         ·
          rintro w' ⟨s0,s1,s2,s3,s4,s5⟩;go_simp;with_reducible rfl
         rotate_left
         ·
          simp only [Act.put,zzq,zzr,zzs,i64_w,i32_w];rfl
         refine one_ (i:=1) (N:=some 16) (zzB 18 3) rfl rfl (one_of HT_.out (by kernel_rfl)) (by decide) (fun K hK=>?_);refine goes_ Try.func56 (by kernel_rfl) rfl #[.agg #[.bool ((Qa l0 x10_1).f0),.bool ((Qa l0 x10_1).f1),.int .i64 ((Qa l0 x10_1).f2),.int .i64 ((Qa l0 x10_1).f3),.int .i64 ((Qa l0 x10_1).f4),.slice A309_5 ((Qa l0 x10_1).f5).length c309_5]] (by rfl) rfl rfl zzM2 ?_;with_reducible refine (Qe.calls k1 ((Qa l0 x10_1).f0) ((Qa l0 x10_1).f1) ((Qa l0 x10_1).f2) ((Qa l0 x10_1).f3) ((Qa l0 x10_1).f4) _ _ ((Qa l0 x10_1).f5) true _ ?side1 ?side2 A6.out).mono ?_
         (case side1=>repeat (first|exact (Kd.C_below HR309_5.out HB.out)|(with_reducible refine Kd.C_alloc ?_ _)|(with_reducible refine Kd.C_drewN ?_ _)|(with_reducible refine Kd.C_drew ?_)))
         (case side2=>exact HC309_5.out);rintro e w33 ⟨rfl,hb⟩;refine ⟨_,rfl,?_⟩;have n0_:=zzm (zzh (g:=gb310) (o:=.cells #[.bool ((Qa l0 x10_1).f0),.bool ((Qa l0 x10_1).f1),.int .i64 ((Qa l0 x10_1).f2),.int .i64 ((Qa l0 x10_1).f3),.int .i64 ((Qa l0 x10_1).f4),.slice A309_5 ((Qa l0 x10_1).f5).length c309_5] 34 (0,0)) (zzE BK310.out) hb);have n1_:=zzm (zzp zzh2 hb);clear BK310 HB;have BK310:=n0_;have HB:=n1_;clear n0_ n1_
         (try clear hb)
         (try clear hb2)
         (try clear hk)
         (try clear hi);refine hK.out _ _ ⟨(zzk BK310.out 0).trans rfl,(zzk BK310.out 1).trans rfl,(zzk BK310.out 2).trans rfl,(zzk BK310.out 3).trans rfl,(zzk BK310.out 4).trans rfl,(zzk BK310.out 5).trans rfl⟩ (fun hHeld=>?_);clear hK K;refine norm_ (a':=?_) ?_ ?_;rotate_left
         ·
          show Act.put _ (some 16) _ = _;simp only [Act.put,zzq,zzr,zzs,i64_w,i32_w];rfl
         refine pure_ (i:=2) (N:=some 17) (v:=?_) (a':=?_) (zzB 18 7) rfl rfl (zzA2 HT_.out) (fun _ _ _ h=>h) (Or.inl ⟨by rfl,?_⟩) ?_ ?_;rotate_left
         ·
          intro w';go_simp;with_reducible rfl
         rotate_left
         ·
          simp only [Act.put,zzq,zzr,zzs,i64_w,i32_w];rfl
         refine pure_ (i:=3) (N:=some 18) (v:=?_) (a':=?_) (zzB 18 15) rfl rfl (zzA2 HT_.out) (fun _ _ _ h=>h) (Or.inl ⟨by rfl,?_⟩) ?_ ?_;rotate_left
         ·
          intro w';go_simp;with_reducible rfl
         rotate_left
         ·
          simp only [Act.put,zzq,zzr,zzs,i64_w,i32_w];rfl
         refine pure_ (i:=4) (N:=some 19) (v:=?_) (a':=?_) (zzB 18 31) rfl rfl (zzA2 HT_.out) (fun _ _ _ h=>h) (Or.inl ⟨by rfl,?_⟩) ?_ ?_;rotate_left
         ·
          intro w';go_simp;with_reducible rfl
         rotate_left
         ·
          simp only [Act.put,zzq,zzr,zzs,i64_w,i32_w];rfl
         refine pure_ (i:=5) (N:=some 20) (v:=?_) (a':=?_) (zzB 18 63) rfl rfl (zzA2 HT_.out) (fun _ _ _ h=>h) (Or.inl ⟨by rfl,?_⟩) ?_ ?_;rotate_left
         ·
          intro w';go_simp;with_reducible rfl
         rotate_left
         ·
          simp only [Act.put,zzq,zzr,zzs,i64_w,i32_w];rfl
         refine pure_ (i:=6) (N:=some 21) (v:=?_) (a':=?_) (zzB 18 127) rfl rfl (zzA2 HT_.out) (fun _ _ _ h=>h) (Or.inl ⟨by rfl,?_⟩) ?_ ?_;rotate_left
         ·
          intro w';go_simp;with_reducible rfl
         rotate_left
         ·
          simp only [Act.put,zzq,zzr,zzs,i64_w,i32_w];rfl
         refine pure_ (i:=7) (N:=some 22) (v:=undef) (a':=?_) (zzB 18 255) rfl rfl (zzA2 HT_.out) (fun _ _ _ h=>h) (Or.inr ⟨by rfl,rfl⟩) ?_ ?_;rotate_left
         ·
          simp only [Act.put,zzq,zzr,zzs,i64_w,i32_w];rfl
         refine pure_ (i:=8) (N:=some 23) (v:=undef) (a':=?_) (zzB 18 511) rfl rfl (zzA2 HT_.out) (fun _ _ _ h=>h) (Or.inr ⟨by rfl,rfl⟩) ?_ ?_;rotate_left
         ·
          simp only [Act.put,zzq,zzr,zzs,i64_w,i32_w];rfl
         refine pure_ (i:=9) (N:=some 24) (v:=undef) (a':=?_) (zzB 18 1023) rfl rfl (zzA2 HT_.out) (fun _ _ _ h=>h) (Or.inr ⟨by rfl,rfl⟩) ?_ ?_;rotate_left
         ·
          simp only [Act.put,zzq,zzr,zzs,i64_w,i32_w];rfl
         refine pure_ (i:=10) (N:=some 25) (v:=undef) (a':=?_) (zzB 18 2047) rfl rfl (zzA2 HT_.out) (fun _ _ _ h=>h) (Or.inr ⟨by rfl,rfl⟩) ?_ ?_;rotate_left
         ·
          simp only [Act.put,zzq,zzr,zzs,i64_w,i32_w];rfl
         refine pure_ (i:=11) (N:=some 26) (v:=undef) (a':=?_) (zzB 18 4095) rfl rfl (zzA2 HT_.out) (fun _ _ _ h=>h) (Or.inr ⟨by rfl,rfl⟩) ?_ ?_;rotate_left
         ·
          simp only [Act.put,zzq,zzr,zzs,i64_w,i32_w];rfl
         refine pure_ (i:=12) (N:=some 27) (v:=undef) (a':=?_) (zzB 18 8191) rfl rfl (zzA2 HT_.out) (fun _ _ _ h=>h) (Or.inr ⟨by rfl,rfl⟩) ?_ ?_;rotate_left
         ·
          simp only [Act.put,zzq,zzr,zzs,i64_w,i32_w];rfl
         refine pure_ (i:=13) (N:=some 28) (v:=undef) (a':=?_) (zzB 18 16383) rfl rfl (zzA2 HT_.out) (fun _ _ _ h=>h) (Or.inr ⟨by rfl,rfl⟩) ?_ ?_;rotate_left
         ·
          simp only [Act.put,zzq,zzr,zzs,i64_w,i32_w];rfl
         refine pure_ (i:=14) (N:=some 29) (v:=undef) (a':=?_) (zzB 18 32767) rfl rfl (zzA2 HT_.out) (fun _ _ _ h=>h) (Or.inr ⟨by rfl,rfl⟩) ?_ ?_;rotate_left
         ·
          simp only [Act.put,zzq,zzr,zzs,i64_w,i32_w];rfl
         refine pure_ (i:=15) (N:=some 30) (v:=undef) (a':=?_) (zzB 18 65535) rfl rfl (zzA2 HT_.out) (fun _ _ _ h=>h) (Or.inr ⟨by rfl,rfl⟩) ?_ ?_;rotate_left
         ·
          simp only [Act.put,zzq,zzr,zzs,i64_w,i32_w];rfl
         refine pure_ (i:=16) (N:=some 31) (v:=?_) (a':=?_) (zzB 18 131071) rfl rfl (zzA2 HT_.out) (fun _ _ _ h=>h) (Or.inl ⟨by rfl,?_⟩) ?_ ?_;rotate_left
         ·
          intro w';go_simp;with_reducible rfl
         rotate_left
         ·
          simp only [Act.put,zzq,zzr,zzs,i64_w,i32_w];rfl
         refine pure_ (i:=17) (N:=some 32) (v:=?_) (a':=?_) (zzB 18 262143) rfl rfl (zzA2 HT_.out) (fun _ _ _ h=>h) (Or.inl ⟨by rfl,?_⟩) ?_ ?_;rotate_left
         ·
          intro w';go_simp;with_reducible rfl
         rotate_left
         ·
          simp only [Act.put,zzq,zzr,zzs,i64_w,i32_w];rfl
         refine done_ (done_of HT_.out (by kernel_rfl)) ?_;try go_wp2
         go_roundg k1
         case measure=>have:=HK1.out;omega
         case rel=>exact ⟨(wrap64 (x10_1+1)),(by first|rfl|(simp;done)|(simp [*];done)),H',⟨by have:=HK1.out;omega⟩,⟨by repeat (first|(with_reducible first|exact HB.out|apply zza|apply zzb|apply zzc|refine zzd ?_ GE310.out)|exact HB.out)⟩⟩
       ·
        replace c7:=Bool.eq_false_iff.mpr c7;subst c7;have H1:(some false)=some r:=by rw [if_neg (show ¬ (false=true) by decide)] at H;exact H
        clear H;have H:=H1;clear H1;obtain rfl:=Option.some.inj H;have p309 : 0≤(x10_1:Int):=zzt;have q309:x10_1 < (l0.length:Int):=zzt;obtain ⟨ad309,A309_5,c309_5,e309,hx309_0,hx309_1,hx309_2,hx309_3,hx309_4,hx309_5,hl309_5,hi309_5⟩:=Qw HR0.out x10_1 p309 q309;cases e309;replace hx309_0:=zzx HB.out hx309_0;replace hx309_1:=zzx HB.out hx309_1;replace hx309_2:=zzx HB.out hx309_2;replace hx309_3:=zzx HB.out hx309_3;replace hx309_4:=zzx HB.out hx309_4;replace hx309_5:=zzx HB.out hx309_5;have HR309_5:=zzm hi309_5;have HC309_5:=zzm hl309_5;clear hi309_5 hl309_5;replace p309:=eq_true p309;replace q309:=eq_true q309;try go_wp2_with (first|((with_reducible refine gate_dst (N:=4) rfl ?_);refine box_event ?hg (N:=4) ?hd (cs:=#[.bool false,.bool false,.int .i64 0,.int .i64 0,.int .i64 0,.slice none 0 0]) (t:=34) ?hr ?_;(case hd=>rfl);(case hg=>rfl);(case hr=>first|(go_simp;done)|(go_simp;rfl));intro gb310 hg w34 hbox hb;have n0_:=zzm (zzp zzh1 hb);have n1_:=zzm (hbox);have n2_:=zzm ((by rw [hg];exact (zzo zzh1):w.heap.size≤gb310));have n3_:=zzm ((by rw [hg];exact (zzo zzh1):w.heap.size≤gb310));clear HB;have HB:=n0_;have BK310:=n1_;have GW310:=n2_;have GE310:=n3_;clear n0_ n1_ n2_ n3_ hb hbox hg;obtain ⟨hcz35_0,hcz35_1,hcz35_2,hcz35_3,hcz35_4,hcz35_5,hfz35_0,hfz35_1,hfz35_2,hfz35_3,hfz35_4,hfz35_5⟩:=zzc6 BK310.out))
        have n0_:Aside0 (((((((w34.setCell ⟨gb310,0,none⟩ (.bool ((Qa l0 x10_1).f0))).setCell ⟨gb310,1,none⟩ (.bool ((Qa l0 x10_1).f1))).setCell ⟨gb310,2,none⟩ (.int .i64 ((Qa l0 x10_1).f2))).setCell ⟨gb310,3,none⟩ (.int .i64 ((Qa l0 x10_1).f3))).setCell ⟨gb310,4,none⟩ (.int .i64 ((Qa l0 x10_1).f4))).setCell ⟨gb310,5,none⟩ (.slice A309_5 ((Qa l0 x10_1).f5).length c309_5)).heap[gb310]? = some (.cells #[.bool ((Qa l0 x10_1).f0),.bool ((Qa l0 x10_1).f1),.int .i64 ((Qa l0 x10_1).f2),.int .i64 ((Qa l0 x10_1).f3),.int .i64 ((Qa l0 x10_1).f4),.slice A309_5 ((Qa l0 x10_1).f5).length c309_5] 34 (0,0))):=⟨by (with_reducible repeat (first|apply zzf|apply zzg|apply zze));refine zzi (cs:=#[.bool ((Qa l0 x10_1).f0),.bool ((Qa l0 x10_1).f1),.int .i64 ((Qa l0 x10_1).f2),.int .i64 ((Qa l0 x10_1).f3),.int .i64 ((Qa l0 x10_1).f4),.slice none 0 0]) ?_ 5 _ rfl;(with_reducible repeat (first|apply zzf|apply zzg|apply zze));refine zzi (cs:=#[.bool ((Qa l0 x10_1).f0),.bool ((Qa l0 x10_1).f1),.int .i64 ((Qa l0 x10_1).f2),.int .i64 ((Qa l0 x10_1).f3),.int .i64 0,.slice none 0 0]) ?_ 4 _ rfl;(with_reducible repeat (first|apply zzf|apply zzg|apply zze));refine zzi (cs:=#[.bool ((Qa l0 x10_1).f0),.bool ((Qa l0 x10_1).f1),.int .i64 ((Qa l0 x10_1).f2),.int .i64 0,.int .i64 0,.slice none 0 0]) ?_ 3 _ rfl;(with_reducible repeat (first|apply zzf|apply zzg|apply zze));refine zzi (cs:=#[.bool ((Qa l0 x10_1).f0),.bool ((Qa l0 x10_1).f1),.int .i64 0,.int .i64 0,.int .i64 0,.slice none 0 0]) ?_ 2 _ rfl;(with_reducible repeat (first|apply zzf|apply zzg|apply zze));refine zzi (cs:=#[.bool ((Qa l0 x10_1).f0),.bool false,.int .i64 0,.int .i64 0,.int .i64 0,.slice none 0 0]) ?_ 1 _ rfl;(with_reducible repeat (first|apply zzf|apply zzg|apply zze));refine zzi (cs:=#[.bool false,.bool false,.int .i64 0,.int .i64 0,.int .i64 0,.slice none 0 0]) ?_ 0 _ rfl;(with_reducible repeat (first|apply zzf|apply zzg|apply zze));exact BK310.out⟩;have n1_:Aside0 (Below w.heap.size w ((((((w34.setCell ⟨gb310,0,none⟩ (.bool ((Qa l0 x10_1).f0))).setCell ⟨gb310,1,none⟩ (.bool ((Qa l0 x10_1).f1))).setCell ⟨gb310,2,none⟩ (.int .i64 ((Qa l0 x10_1).f2))).setCell ⟨gb310,3,none⟩ (.int .i64 ((Qa l0 x10_1).f3))).setCell ⟨gb310,4,none⟩ (.int .i64 ((Qa l0 x10_1).f4))).setCell ⟨gb310,5,none⟩ (.slice A309_5 ((Qa l0 x10_1).f5).length c309_5))):=⟨by repeat (first|(with_reducible first|exact HB.out|apply zza|apply zzb|apply zzc|refine zzd ?_ GE310.out)|exact HB.out)⟩
        (try clear BK310)
        (try clear HB);generalize ((((((w34.setCell ⟨gb310,0,none⟩ (.bool ((Qa l0 x10_1).f0))).setCell ⟨gb310,1,none⟩ (.bool ((Qa l0 x10_1).f1))).setCell ⟨gb310,2,none⟩ (.int .i64 ((Qa l0 x10_1).f2))).setCell ⟨gb310,3,none⟩ (.int .i64 ((Qa l0 x10_1).f3))).setCell ⟨gb310,4,none⟩ (.int .i64 ((Qa l0 x10_1).f4))).setCell ⟨gb310,5,none⟩ (.slice A309_5 ((Qa l0 x10_1).f5).length c309_5))=w36 at n0_ n1_ ⊢;have BK310:=n0_;have HB:=n1_;clear n0_ n1_;have n0_:=zzm (zzg BK310.out);have n1_:=zzm (zzc HB.out);clear BK310 HB;have BK310:=n0_;have HB:=n1_;clear n0_ n1_;refine start_ (n:=18) (S:=fun w'=>w'.cell? ⟨gb310,0,none⟩=some (.bool ((Qa l0 x10_1).f0))∧w'.cell? ⟨gb310,1,none⟩=some (.bool ((Qa l0 x10_1).f1))∧w'.cell? ⟨gb310,2,none⟩=some (.int .i64 ((Qa l0 x10_1).f2))∧w'.cell? ⟨gb310,3,none⟩=some (.int .i64 ((Qa l0 x10_1).f3))∧w'.cell? ⟨gb310,4,none⟩=some (.int .i64 ((Qa l0 x10_1).f4))∧w'.cell? ⟨gb310,5,none⟩=some (.slice A309_5 ((Qa l0 x10_1).f5).length c309_5)) (ds:=[]) (zzB 18 0) (by kernel_rfl) rfl rfl ⟨(zzk BK310.out 0).trans rfl,(zzk BK310.out 1).trans rfl,(zzk BK310.out 2).trans rfl,(zzk BK310.out 3).trans rfl,(zzk BK310.out 4).trans rfl,(zzk BK310.out 5).trans rfl⟩ (fun hHeld=>?_);refine with_tabW Qn.tab6 Qn.bits6 (fun HT_ HW_=>?_);generalize w36.drew=w37 at BK310 HB hHeld ⊢;refine take_ (i:=0) (N:=some 15) (v:=?_) (a':=?_) (zzB 18 1) rfl rfl (take_ofW HT_.out HW_.out (by kernel_rfl)) (fun _ _ _ h=>h) (Or.inl ⟨by rfl,?_⟩) hHeld ?_ ?_;rotate_left
        ·
         rintro w' ⟨s0,s1,s2,s3,s4,s5⟩;go_simp;with_reducible rfl
        rotate_left
        ·
         simp only [Act.put,zzq,zzr,zzs,i64_w,i32_w];rfl
        refine one_ (i:=1) (N:=some 16) (zzB 18 3) rfl rfl (one_of HT_.out (by kernel_rfl)) (by decide) (fun K hK=>?_);refine goes_ Try.func56 (by kernel_rfl) rfl #[.agg #[.bool ((Qa l0 x10_1).f0),.bool ((Qa l0 x10_1).f1),.int .i64 ((Qa l0 x10_1).f2),.int .i64 ((Qa l0 x10_1).f3),.int .i64 ((Qa l0 x10_1).f4),.slice A309_5 ((Qa l0 x10_1).f5).length c309_5]] (by rfl) rfl rfl zzM2 ?_;with_reducible refine (Qe.calls k1 ((Qa l0 x10_1).f0) ((Qa l0 x10_1).f1) ((Qa l0 x10_1).f2) ((Qa l0 x10_1).f3) ((Qa l0 x10_1).f4) _ _ ((Qa l0 x10_1).f5) false _ ?side1 ?side2 A6.out).mono ?_
        (case side1=>repeat (first|exact (Kd.C_below HR309_5.out HB.out)|(with_reducible refine Kd.C_alloc ?_ _)|(with_reducible refine Kd.C_drewN ?_ _)|(with_reducible refine Kd.C_drew ?_)))
        (case side2=>exact HC309_5.out);rintro e w38 ⟨rfl,hb⟩;refine ⟨_,rfl,?_⟩;have n0_:=zzm (zzh (g:=gb310) (o:=.cells #[.bool ((Qa l0 x10_1).f0),.bool ((Qa l0 x10_1).f1),.int .i64 ((Qa l0 x10_1).f2),.int .i64 ((Qa l0 x10_1).f3),.int .i64 ((Qa l0 x10_1).f4),.slice A309_5 ((Qa l0 x10_1).f5).length c309_5] 34 (0,0)) (zzE BK310.out) hb);have n1_:=zzm (zzp zzh2 hb);clear BK310 HB;have BK310:=n0_;have HB:=n1_;clear n0_ n1_
        (try clear hb)
        (try clear hb2)
        (try clear hk)
        (try clear hi);refine hK.out _ _ ⟨(zzk BK310.out 0).trans rfl,(zzk BK310.out 1).trans rfl,(zzk BK310.out 2).trans rfl,(zzk BK310.out 3).trans rfl,(zzk BK310.out 4).trans rfl,(zzk BK310.out 5).trans rfl⟩ (fun hHeld=>?_);clear hK K;refine norm_ (a':=?_) ?_ ?_;rotate_left
        ·
         show Act.put _ (some 16) _ = _;simp only [Act.put,zzq,zzr,zzs,i64_w,i32_w];rfl
        refine pure_ (i:=2) (N:=some 17) (v:=?_) (a':=?_) (zzB 18 7) rfl rfl (zzA2 HT_.out) (fun _ _ _ h=>h) (Or.inl ⟨by rfl,?_⟩) ?_ ?_;rotate_left
        ·
         intro w';go_simp;with_reducible rfl
        rotate_left
        ·
         simp only [Act.put,zzq,zzr,zzs,i64_w,i32_w];rfl
        refine pure_ (i:=3) (N:=some 18) (v:=?_) (a':=?_) (zzB 18 15) rfl rfl (zzA2 HT_.out) (fun _ _ _ h=>h) (Or.inl ⟨by rfl,?_⟩) ?_ ?_;rotate_left
        ·
         intro w';go_simp;with_reducible rfl
        rotate_left
        ·
         simp only [Act.put,zzq,zzr,zzs,i64_w,i32_w];rfl
        refine pure_ (i:=4) (N:=some 19) (v:=undef) (a':=?_) (zzB 18 31) rfl rfl (zzA2 HT_.out) (fun _ _ _ h=>h) (Or.inr ⟨by rfl,rfl⟩) ?_ ?_;rotate_left
        ·
         simp only [Act.put,zzq,zzr,zzs,i64_w,i32_w];rfl
        refine pure_ (i:=5) (N:=some 20) (v:=undef) (a':=?_) (zzB 18 63) rfl rfl (zzA2 HT_.out) (fun _ _ _ h=>h) (Or.inr ⟨by rfl,rfl⟩) ?_ ?_;rotate_left
        ·
         simp only [Act.put,zzq,zzr,zzs,i64_w,i32_w];rfl
        refine pure_ (i:=6) (N:=some 21) (v:=undef) (a':=?_) (zzB 18 127) rfl rfl (zzA2 HT_.out) (fun _ _ _ h=>h) (Or.inr ⟨by rfl,rfl⟩) ?_ ?_;rotate_left
        ·
         simp only [Act.put,zzq,zzr,zzs,i64_w,i32_w];rfl
        refine pure_ (i:=7) (N:=some 22) (v:=undef) (a':=?_) (zzB 18 255) rfl rfl (zzA2 HT_.out) (fun _ _ _ h=>h) (Or.inr ⟨by rfl,rfl⟩) ?_ ?_;rotate_left
        ·
         simp only [Act.put,zzq,zzr,zzs,i64_w,i32_w];rfl
        refine pure_ (i:=8) (N:=some 23) (v:=undef) (a':=?_) (zzB 18 511) rfl rfl (zzA2 HT_.out) (fun _ _ _ h=>h) (Or.inr ⟨by rfl,rfl⟩) ?_ ?_;rotate_left
        ·
         simp only [Act.put,zzq,zzr,zzs,i64_w,i32_w];rfl
        refine pure_ (i:=9) (N:=some 24) (v:=undef) (a':=?_) (zzB 18 1023) rfl rfl (zzA2 HT_.out) (fun _ _ _ h=>h) (Or.inr ⟨by rfl,rfl⟩) ?_ ?_;rotate_left
        ·
         simp only [Act.put,zzq,zzr,zzs,i64_w,i32_w];rfl
        refine pure_ (i:=10) (N:=some 25) (v:=undef) (a':=?_) (zzB 18 2047) rfl rfl (zzA2 HT_.out) (fun _ _ _ h=>h) (Or.inr ⟨by rfl,rfl⟩) ?_ ?_;rotate_left
        ·
         simp only [Act.put,zzq,zzr,zzs,i64_w,i32_w];rfl
        refine pure_ (i:=11) (N:=some 26) (v:=undef) (a':=?_) (zzB 18 4095) rfl rfl (zzA2 HT_.out) (fun _ _ _ h=>h) (Or.inr ⟨by rfl,rfl⟩) ?_ ?_;rotate_left
        ·
         simp only [Act.put,zzq,zzr,zzs,i64_w,i32_w];rfl
        refine pure_ (i:=12) (N:=some 27) (v:=undef) (a':=?_) (zzB 18 8191) rfl rfl (zzA2 HT_.out) (fun _ _ _ h=>h) (Or.inr ⟨by rfl,rfl⟩) ?_ ?_;rotate_left
        ·
         simp only [Act.put,zzq,zzr,zzs,i64_w,i32_w];rfl
        refine pure_ (i:=13) (N:=some 28) (v:=undef) (a':=?_) (zzB 18 16383) rfl rfl (zzA2 HT_.out) (fun _ _ _ h=>h) (Or.inr ⟨by rfl,rfl⟩) ?_ ?_;rotate_left
        ·
         simp only [Act.put,zzq,zzr,zzs,i64_w,i32_w];rfl
        refine pure_ (i:=14) (N:=some 29) (v:=undef) (a':=?_) (zzB 18 32767) rfl rfl (zzA2 HT_.out) (fun _ _ _ h=>h) (Or.inr ⟨by rfl,rfl⟩) ?_ ?_;rotate_left
        ·
         simp only [Act.put,zzq,zzr,zzs,i64_w,i32_w];rfl
        refine pure_ (i:=15) (N:=some 30) (v:=undef) (a':=?_) (zzB 18 65535) rfl rfl (zzA2 HT_.out) (fun _ _ _ h=>h) (Or.inr ⟨by rfl,rfl⟩) ?_ ?_;rotate_left
        ·
         simp only [Act.put,zzq,zzr,zzs,i64_w,i32_w];rfl
        refine pure_ (i:=16) (N:=some 31) (v:=undef) (a':=?_) (zzB 18 131071) rfl rfl (zzA2 HT_.out) (fun _ _ _ h=>h) (Or.inr ⟨by rfl,rfl⟩) ?_ ?_;rotate_left
        ·
         simp only [Act.put,zzq,zzr,zzs,i64_w,i32_w];rfl
        refine pure_ (i:=17) (N:=some 32) (v:=?_) (a':=?_) (zzB 18 262143) rfl rfl (zzA2 HT_.out) (fun _ _ _ h=>h) (Or.inl ⟨by rfl,?_⟩) ?_ ?_;rotate_left
        ·
         intro w';go_simp;with_reducible rfl
        rotate_left
        ·
         simp only [Act.put,zzq,zzr,zzs,i64_w,i32_w];rfl
        refine done_ (done_of HT_.out (by kernel_rfl)) ?_;try go_wp2
        go_ret;exact ⟨by first|rfl|(simp [errW_none,errW_some] <;> rfl)|(simp [*,errW_none,errW_some] <;> rfl),by repeat (first|(with_reducible first|exact HB.out|apply zza|apply zzb|apply zzc|refine zzd ?_ GE310.out)|exact HB.out)⟩
      ·
       rw [if_neg c5] at H;exact absurd H (by simp)
     ·
      rw [if_neg c4] at H;exact absurd H (by simp)
    ·
     rw [if_neg c3] at H;have c3b0:decide (x10_1 < (l0.length:Int))=false:=decide_eq_false c3;clear c3;obtain rfl:=Option.some.inj H;go_wp2;go_ret;exact ⟨by first|rfl|(simp [errW_none,errW_some] <;> rfl)|(simp [*,errW_none,errW_some] <;> rfl),zzh1⟩
theorem builder_size:(Try.prog.info? 98).map (·.size)=some 2:=by kernel_rfl
theorem builder_lies:liesAt Try.prog Try.prog.depth 98 (2 / Try.prog.cellsOf 98) 0 98 1=true:=by kernel_rfl
theorem byte_info:(Try.prog.info? 5).map (fun i=>(i.zero,i.size,i.bytes))=some (some (.int .u8 0),1,1):=by kernel_rfl
section
open Go.Shelf
def bt_ren:Go.Shelf.Ren:=⟨fun | 169=>88|n=>n,fun | 70=>96 | 9=>9 | 0=>0 | 72=>98 | 37=>22 | 127=>110 | 3=>3 | 5=>5|n=>n,fun|n=>n⟩
theorem bt_lays:Go.Proofs.Lays.n169 Try.prog bt_ren:={
 mixed:=by kernel_rfl
 f169:=Try.func88.trans (congrArg some (by kernel_rfl))
 t0:=Try.underlying0
 a0:=Try.isAgg0
 z0:=Try.sizeOf0
 v0:=Try.zeroValue0
 t3:=Try.underlying3
 a3:=Try.isAgg3
 z3:=Try.sizeOf3
 v3:=Try.zeroValue3
 t9:=Try.underlying9
 a9:=Try.isAgg9
 z9:=Try.sizeOf9
 v9:=Try.zeroValue9
 t37:=Try.underlying22
 a37:=Try.isAgg22
 z37:=Try.sizeOf22
 v37:=Try.zeroValue22
 t70:=Try.underlying96
 a70:=Try.isAgg96
 z70:=Try.sizeOf96
 v70:=Try.zeroValue96
 t72:=Try.underlying98
 a72:=Try.isAgg98
 z72:=Try.sizeOf98
 v72:=Try.zeroValue98
 t127:=Try.underlying110
 a127:=Try.isAgg110
 z127:=Try.sizeOf110
 v127:=Try.zeroValue110 }
theorem bt_extra:Builder.Extra Try.prog bt_ren:={
 sizeBuilder:=by kernel_rfl
 liesBuilder:=by kernel_rfl
 t5:=Try.underlying5
 a5:=Try.isAgg5
 z5:=Try.sizeOf5
 v5:=Try.zeroValue5
 infoByte:=by kernel_rfl
 cellsByte:=by kernel_rfl
 sizeByte:=by kernel_rfl
 neB5:=by decide }
theorem builder_string (B b:Nat) (l:List UInt8) (w:World) (h:Lib.IsBuilder 98 5 B b (Lib.byteCells l) w) (hBw:B≤w.heap.size) :
 Calls Try.prog 88 #[.pointer (some ⟨b,0,none⟩)] w fun e w'=>e = .returned (.string ⟨l.toArray⟩)∧Below B w w':=Any.Builder_String_any bt_lays bt_extra B b l w h hBw
set_option maxHeartbeats 1000000 in
set_option maxRecDepth 100000 in
theorem builder_check_used (b:Nat) (w:World) (h0:w.cell? ⟨b,0,none⟩=some (.pointer (some ⟨b,0,none⟩))) :
  Calls Try.prog 97 #[.pointer (some ⟨b,0,none⟩)] w fun e w'=>e = .returned (.tuple #[])∧w' = w:=by
 obtain ⟨j,hj,_⟩:=Option.map_eq_some_iff.1 builder_size;go_enter Try.func97,Try.ntmps97;go_wp2;rw [Lib.run_neq_ptr_same w _ Try.underlying96 hj];go_wp2;go_end0;exact ⟨rfl,rfl⟩
set_option maxHeartbeats 1000000 in
set_option maxRecDepth 100000 in
theorem builder_check_fresh (b:Nat) (w:World) (h0:w.cell? ⟨b,0,none⟩=some (.pointer none)) (hsh:w.shape? b=some (98,2)) (hfz:w.frozen? ⟨b,0,none⟩=false) :
  Calls Try.prog 97 #[.pointer (some ⟨b,0,none⟩)] w fun e w'=>e = .returned (.tuple #[])∧w' = w.setCell ⟨b,0,none⟩ (.pointer (some ⟨b,0,none⟩)):=by
 obtain ⟨j,hj,hjs⟩:=Option.map_eq_some_iff.1 builder_size;go_enter Try.func97,Try.ntmps97;go_wp2;rw [Lib.run_to_unsafe w ⟨b,0,none⟩ Try.underlying96 Try.underlying112 hj (by rw [hjs];decide) hsh (Nat.zero_lt_succ 1)];simp only [Result.andThen];rw [Oper.upon_value];go_wp2;rw [run_callFunc_extern Try.func102 (by kernel_rfl) (by kernel_rfl) (by kernel_rfl) (e:=Extern.AbiNoEscape.same) (by kernel_rfl)];rw [Lib.run_noEscape];simp only [Result.andThen];rw [Oper.upon_value];go_wp2;rw [Lib.run_from_unsafe w ⟨b,0,none⟩ Try.underlying112 Try.underlying96 hj hsh builder_lies];simp only [Result.andThen];rw [Oper.upon_value];go_wp2;go_end0;exact ⟨rfl,rfl⟩
theorem builder_check (B b:Nat) (bs:List Value) (w:World) (h:Lib.IsBuilder 98 5 B b bs w) :
  Calls Try.prog 97 #[.pointer (some ⟨b,0,none⟩)] w fun e w'=>e = .returned (.tuple #[])∧(Lib.BuilderAt 98 5 B b (.pointer (some ⟨b,0,none⟩)) bs w'∧Below B w w'):=by
 rcases h with h|h
 ·
  refine (builder_check_fresh b w h.cell0 h.shape h.frozen0).mono ?_;rintro e w' ⟨rfl,rfl⟩;exact ⟨rfl,h.used _,(Below.refl B w).setCell (p:=⟨b,0,none⟩) h.1 _⟩
 ·
  refine (builder_check_used b w h.cell0).mono ?_;rintro e w' ⟨rfl,rfl⟩;exact ⟨rfl,h,Below.refl B _⟩
set_option maxHeartbeats 2000000 in
set_option maxRecDepth 100000 in
theorem builder_byte (B b:Nat) (bs:List Value) (c:Int) (w:World) (h:Lib.IsBuilder 98 5 B b bs w) (hlen:bs.length+1≤140737488355328) (hBw:B≤w.heap.size) :
  Calls Try.prog 87 #[.pointer (some ⟨b,0,none⟩),.int .u8 c] w fun e w'=>e = .returned .nilIface∧(Lib.BuilderAt 98 5 B b (.pointer (some ⟨b,0,none⟩)) (bs ++ [.int .u8 c]) w'∧Below B w w'):=by
 obtain ⟨i0,hi,hz0,hz1,hz2⟩:=info_parts byte_info;go_enter Try.func87,Try.ntmps87;go_wp2_with (go_at_call 97;refine (builder_check B b bs _ h).mono ?_);rintro e w1 ⟨rfl,h1,hb1⟩;obtain ⟨hB,v,hbk,hown,hne⟩:=h1;have c0:w1.cell? ⟨b,0,none⟩=some (.pointer (some ⟨b,0,none⟩)):=by rw [Lib.cell_of_heap hbk];rfl
 have c1:w1.cell? ⟨b,1,none⟩=some v:=by rw [Lib.cell_of_heap hbk];rfl
 go_wp2_with (at_builtin;refine wpList_append_own _ rfl _ _ 22 rfl B 5 i0 (.int .u8 0) 1 1 Try.underlying22 hi hz0 hz1 hz2 rfl (by decide) _ _ _ rfl (hown.alloc _) ⟨w1.heap.size,0,none⟩ 1 1 [.int .u8 c] rfl rfl ?c1 ?c2 ?c3 ?c4 ?c5 ?_)
 case c1=>
  intro j u hj;match j,hj with
  | 0,hj=>simp at hj;subst hj;simp [Addr.add]
 case c2=>intro u hu;simp at hu;subst hu;rfl
 case c3=>unfold maxLen;omega
 case c4=>omega
 case c5=>have:=hb1.size;simp;omega
 intro v' w2 hown' hgrow _;have hlt:b < w1.heap.size:=by
  rcases Nat.lt_or_ge b w1.heap.size with h' | h'
  ·
   exact h'
  ·
   simp [Array.getElem?_eq_none h'] at hbk
 have hb2:w2.heap[b]? = some (.cells #[.pointer (some ⟨b,0,none⟩),v] 98 (0,0)):=by
  rw [hgrow.block b (by simp;omega) (fun e=>hne e.symm),Lib.alloc_old w1 _ b hlt];exact hbk
 have d0:w2.cell? ⟨b,0,none⟩=some (.pointer (some ⟨b,0,none⟩)):=by rw [Lib.cell_of_heap hb2];rfl
 have d1:w2.cell? ⟨b,1,none⟩=some v:=by rw [Lib.cell_of_heap hb2];rfl
 have f1:w2.frozen? ⟨b,1,none⟩=false:=Lib.frozen_of_heap hb2 1;obtain ⟨g,cap,rfl⟩:∃ g cap,v' = .slice (some ⟨g,0,none⟩) (bs.length+1) cap:=by
  rcases hown'.2 with ⟨_,h0⟩|⟨g,cap,cur,hv,_⟩
  ·
   omega
  ·
   exact ⟨g,cap,hv⟩
 go_wp2;go_ret;refine ⟨rfl,?_,?_⟩
 ·
  exact Lib.BuilderAt.put (T:=98) (e:=5) hB hb2 (bs':=bs ++ [.int .u8 c]) (by simpa using hown') (by decide)
 ·
  exact ((hb1.alloc (by have:=hb1.size;omega) _).grown hgrow (by have:=hb1.size;simp;omega) (fun k hk=>(hown.lt k hk).1)).setCell (p:=⟨b,1,none⟩) hB _
end
def hexDig (n:Int):UInt8:=UInt8.ofNat (if n < 10 then 48+n.toNat else 87+n.toNat)
def hexOf (l:List Int):List UInt8:=l.flatMap fun b=>[hexDig (b / 16),hexDig (b % 16)]
theorem hexOf_snoc (l:List Int) (b:Int):hexOf (l ++ [b])=hexOf l ++ [hexDig (b / 16),hexDig (b % 16)]:=by simp [hexOf]
theorem hexOf_len (l:List Int):(hexOf l).length=2 * l.length:=by
 induction l with
 | nil=>rfl
 | cons a l ih=>simp only [hexOf,List.flatMap_cons,List.length_append,List.length_cons,List.length_nil] at *;omega
def digits16:ByteArray:=⟨#[48,49,50,51,52,53,54,55,56,57,97,98,99,100,101,102]⟩
theorem and15_all:∀ n:Fin 256,Go.bits .and .i64 ((n.1:Nat):Int) 15=((n.1:Nat):Int) % 16:=by decide +kernel
theorem and15 {x:Int} (h0 : 0≤x) (h1:x≤255):Go.bits .and .i64 x 15=x % 16:=by
 obtain ⟨n,rfl⟩:=Int.eq_ofNat_of_zero_le h0;exact and15_all ⟨n,by omega⟩
theorem dig_all:∀ n:Fin 16,(digits16[n.1]'n.2).toNat=(hexDig ((n.1:Nat):Int)).toNat:=by decide +kernel
theorem dig_at {x:Int} (h0 : 0≤x) (h1:x < 16) (h:x.toNat < digits16.size):((digits16[x.toNat]'h).toNat:Int)=((hexDig x).toNat:Int):=by
 obtain ⟨n,rfl⟩:=Int.eq_ofNat_of_zero_le h0;have:=dig_all ⟨n,by omega⟩;exact congrArg (fun k:Nat=>(k:Int)) this
def keyOk (l:List Int):Bool:=decide (l.length≤1000)&&l.all fun x=>decide (0≤x∧x≤255)
theorem keyOk_len {l:List Int} (h:keyOk l=true):l.length≤1000:=by
 unfold keyOk at h;rw [Bool.and_eq_true,decide_eq_true_eq] at h;exact h.1
theorem keyOk_at {l:List Int} (h:keyOk l=true):∀ m:Nat,m < l.length→0≤rd l (m:Int)∧rd l (m:Int)≤255:=by
 intro m hm;unfold keyOk at h;rw [Bool.and_eq_true] at h;have:=List.all_eq_true.1 h.2 _ (List.getElem_mem hm);rw [decide_eq_true_eq] at this;unfold rd;rw [Int.toNat_natCast,List.getD_eq_getElem?_getD,List.getElem?_eq_getElem hm];exact this
def Re.f (k:Nat) (l0:List Int):Option ByteArray:=(Qt.f k l0).bind fun t=>if t=true then (if keyOk l0=true then some ⟨(hexOf l0).toArray⟩ else none) else some ⟨#[]⟩
set_option maxHeartbeats 2000000 in
set_option maxRecDepth 100000 in
theorem Re.calls (k:Nat) (A0:Option Addr) (c0:Nat) (l0:List Int) (r:ByteArray) (w:World) (hr0:Kd.C (Kd.int .i64) w A0 l0.length l0) (hc0:l0.length≤c0) (h:Re.f k l0=some r) :
  Calls Try.prog 68 #[.slice A0 l0.length c0] w fun e w'=>e = .returned (.string r)∧Below w.heap.size w w':=by
 unfold Re.f at h;replace h:=Option.bind_eq_some_iff.mp h;obtain ⟨t0,hv0,h⟩:=h;have HV0:=zzm hv0;have HR0:=zzm hr0;have HC0:=zzm hc0;clear hr0 hc0 hv0;cases t0 with
 | false=>
  have hr:r=⟨#[]⟩:=by simpa using h.symm
  clear h;go_enter Try.func68,Try.ntmps68;go_wp2_with (go_at_call 86;refine (Qt.calls k _ _ l0 _ _ HR0.out HC0.out HV0.out).mono ?_;rintro e w1 ⟨rfl,⟨n1,rfl⟩⟩);go_ret;subst hr;exact ⟨rfl,zzb (Below.refl _ _) n1⟩
 | true=>
  rw [if_pos rfl] at h;by_cases hk:keyOk l0=true
  ·
   rw [if_pos hk] at h;have HF:=zzm (Option.some.inj h);have HK:=zzm hk;clear h hk;go_enter Try.func68,Try.ntmps68;go_wp2_with (go_at_call 86;refine (Qt.calls k _ _ l0 _ _ HR0.out HC0.out HV0.out).mono ?_;rintro e w1 ⟨rfl,⟨n1,rfl⟩⟩);have HK2:=zzm (keyOk_at HK.out);have hlen:=(keyOk_len HK.out);have hB0:Below w.heap.size w (w.alloc (.cells #[.pointer none,.slice none 0 0] 98)):=(Below.refl _ w).alloc (Nat.le_refl _) _;have hI0:=Lib.fresh_isBuilder 98 5 w;go_loopw [11,5] (fun i i5 w'=>∃ m:Nat,m≤l0.length∧i = .int .i64 m∧Lib.IsBuilder 98 5 w.heap.size w.heap.size (Lib.byteCells (hexOf (l0.take m))) w'∧Below w.heap.size w w') (fun i _ _=>l0.length - (intOf i).toNat)
   case atStart=>exact ⟨0,Nat.zero_le _,rfl,by simp only [List.take_zero];exact hI0,by first|exact hB0|exact zzb hB0 n1⟩
   case round=>
    obtain ⟨m,hm,rfl,hI,hB⟩:=hrel;have HB:=zzm hB;have HI:=zzm hI;clear hB hI hB0 hI0;by_cases hlt:m < l0.length
    ·
     obtain ⟨ad,he,hx0⟩:=Kd.at_int HR0.out (m:Int) (by omega) (by omega);subst he;have hc0:=zzx HB.out hx0;simp only [Int.toNat_natCast] at hc0;obtain ⟨hb0,hb1⟩:=HK2.out m hlt;have hand:=and15 hb0 hb1;have hml:(hexOf (l0.take m)).length≤2000:=by rw [hexOf_len,length_take];omega
     go_wp2_with (first|(go_at_call 87;have hi_:=HI;clear HI;refine (builder_byte w.heap.size w.heap.size _ _ _ hi_.out (by rw [Lib.byteCells_length];omega) HB.out.size).mono ?_;rintro e w2 ⟨rfl,h2,hb2⟩;have H2:=zzm h2;have HB2:=zzm (HB.out.trans hb2);clear h2 hb2)|(go_at_call 87;refine (builder_byte w.heap.size w.heap.size _ _ _ (.inr H2.out) (by rw [List.length_append,List.length_singleton,Lib.byteCells_length];omega) HB2.out.size).mono ?_;rintro e w3 ⟨rfl,h3,hb3⟩;have H3:=zzm h3;have HB3:=zzm (HB2.out.trans hb3);clear h3 hb3));go_roundw
     case rel=>
      refine ⟨m+1,by omega,by go_num,.inr ?_,HB3.out⟩;have e1:l0.take (m+1)=l0.take m ++ [rd l0 (m:Int)]:=by
       rw [List.take_add_one,List.getElem?_eq_getElem hlt];unfold rd;rw [Int.toNat_natCast,List.getD_eq_getElem?_getD,List.getElem?_eq_getElem hlt];rfl
      have h3:=H3.out;have d1:=dig_at (x:=rd l0 (m:Int) / 16) (by omega) (by omega) (by show _ < 16;omega);have d2:=dig_at (x:=rd l0 (m:Int) % 16) (by omega) (by omega) (by show _ < 16;omega);have e2:Lib.byteCells (hexOf (l0.take (m+1)))=Lib.byteCells (hexOf (l0.take m)) ++ [.int .u8 ((hexDig (rd l0 (m:Int) / 16)).toNat:Int)] ++ [.int .u8 ((hexDig (rd l0 (m:Int) % 16)).toNat:Int)]:=by
       rw [e1,hexOf_snoc];simp [Lib.byteCells]
      rw [e2,← d1,← d2];exact h3
     case measure=>simp [intOf] <;> omega
    ·
     have hk2:m=l0.length:=by omega
     go_wp2_with (go_at_call 88;refine (builder_string w.heap.size w.heap.size (hexOf l0) _ (by rw [hk2,List.take_length] at HI;exact HI.out) HB.out.size).mono ?_;rintro e w2 ⟨rfl,hb2⟩);go_ret;exact ⟨congrArg (fun x=>Ending.returned (Value.string x)) HF.out,HB.out.trans hb2⟩
  ·
   rw [if_neg hk] at h;cases h
section
variable {P:Program} {ops:Array Oper} {rest:List Oper} {o:Oper} {a:Act} {W:World} {Q:Exit→Act→World→Prop} {Kc:Act→World→Prop} {α:Type}
end
def slices_Clone_int_int.f (l0:List Int):Option (List Int):=if l0.length < 8796093022208 then some l0 else none
set_option maxHeartbeats 8000000 in
set_option maxRecDepth 100000 in
theorem slices_Clone_int_int.calls (A0:Option Addr) (c0:Nat) (l0:List (Int)) (r:List (Int)) (w:World) (hr0:Kd.C (Kd.int .i64) w A0 l0.length l0) (hc0:l0.length≤c0) (h:slices_Clone_int_int.f l0=some r) :
  Calls Try.prog 71 #[.slice A0 l0.length c0] w fun e w'=>∃ v0_:Value,e = .returned (v0_)∧Kd.R (Kd.int .i64) 3 w' w.heap.size (fun _=>True) v0_ r∧Below w.heap.size w w':=by
 unfold slices_Clone_int_int.f at h;by_cases hlt:l0.length < 8796093022208
 ·
  rw [if_pos hlt] at h;obtain rfl:=Option.some.inj h;have LM:=zzm hlt;clear hlt h;have HR0:=zzm hr0;have HC0:=zzm hc0;clear hr0 hc0;have HB:=zzm (Below.refl w.heap.size w);have q23:∀ (w:World) (a:Option Addr) (n c n' c' : Nat),(binOp .eql 28 (.slice a n c) (.slice none n' c')).run Try.prog w = .ok (.bool a.isNone) w:=fun w a n c n' c'=>Lib.run_eql_slice_nil w _ _ a n c n' c' Try.underlying28;cases A0 with
  | none=>
   have hl:l0 = []:=by
    cases l0 with
    | nil=>rfl
    | cons a l=>
     obtain ⟨ad,e,_⟩:=HR0.out.2.2 (by simp);cases e
   subst hl;go_enter Try.func71,Try.ntmps71;go_wp2;go_ret;exact ⟨_,rfl,Kd.R_nil _ _ _ _ _,HB.out⟩
  | some ad=>
   obtain ⟨y,hy⟩:∃ y:List Int,y = []:=⟨_,rfl⟩;have Ny:=zzm hy;clear hy;go_enter Try.func71,Try.ntmps71;go_wp2_with (first
    | ((with_reducible refine gate_dst (N:=5) rfl ?_);refine Kd.R_lit (Kd.int .i64) _ 3 ?hg (N:=5) ?hd (xs:=([]:List (Int))) (inner:=[]) (ok:=fun _=>True) (okp:=fun _=>True) ?hr ?hp (fun _ hk=>hk) trivial (Below.refl _ _) (Nat.le_refl _) (by simp) ?_;(case hd=>rfl);(case hg=>rfl);(case hr=>first|(go_simp;done)|(go_simp;rfl));(case hp=>exact (Reps.none _ _));intro v1 w1 ho1 hb hg_ hnew_;clear hg_ hnew_;rw [← Ny.out] at ho1;have n1_:=zzm (zzp HB.out hb);have n2_:=zzm ho1;clear HB;have HB:=n1_;have HO:=n2_;clear n1_ n2_ hb ho1)
    | ((with_reducible refine gate_dst (N:=7) rfl ?_);refine Kd.R_append_rows (Kd.int .i64) (w0:=w) w.heap.size rfl (.tmp 5) (.tmp 6) 28 3 (.int .i64 0) 8 rfl Try.underlying28 info3 rfl (by decide) (by omega) v1 y l0 _ _ _ (fun _=>True) (fun _=>False) rfl rfl ?aO ?aR (fun _ _ h=>h) (fun _ h=>h.elim) ?aF ?aB ?aS ?aL ?_;(case aR=>exact (Kd.C_below HR0.out HB.out));(case aB=>exact HB.out);(case aF=>exact fun _ _=>trivial);(case aO=>exact HO.out);(case aS=>exact HB.out.size);(case aL=>have:=LM.out;rw [Ny.out];simp only [List.length_nil];omega);intro v2 w2 ho2 hb2 hg2 hat2;rw [Ny.out,List.nil_append] at ho2;have HO2:=zzm ho2;have HB2:=zzm hb2;clear ho2 hb2 hg2 hat2))
   go_ret;exact ⟨_,rfl,HO2.out,HB2.out⟩
 ·
  rw [if_neg hlt] at h;cases h
def Rf.f (a0_0:Int) (a0_1:Int) (a0_2:Bool) (l0_3:List Int) (a0_4:Bool) (l0_5:List Int):Option (Int×Int×Bool×List Int×Bool×List Int):=(slices_Clone_int_int.f l0_3).bind fun t317=>((slices_Clone_int_int.f l0_5).bind fun t320=>(some (a0_0,a0_1,a0_2,t317,a0_4,t320)))
set_option maxHeartbeats 8000000 in
set_option maxRecDepth 100000 in
theorem Rf.calls (a0_0:Int) (a0_1:Int) (a0_2:Bool) (A0_3:Option Addr) (c0_3:Nat) (l0_3:List Int) (a0_4:Bool) (A0_5:Option Addr) (c0_5:Nat) (l0_5:List Int) (r1:Int) (r2:Int) (r3:Bool) (r4:List Int) (r5:Bool) (r6:List Int) (w:World) (hr0_3:Kd.C (Kd.int .i64) w A0_3 l0_3.length l0_3) (hc0_3:l0_3.length≤c0_3) (hr0_5:Kd.C (Kd.int .i64) w A0_5 l0_5.length l0_5) (hc0_5:l0_5.length≤c0_5) (h:Rf.f a0_0 a0_1 a0_2 l0_3 a0_4 l0_5=some (r1,r2,r3,r4,r5,r6)) :
  Calls Try.prog 42 #[.agg #[.int .i64 a0_0,.int .i64 a0_1,.bool a0_2,.slice A0_3 l0_3.length c0_3,.bool a0_4,.slice A0_5 l0_5.length c0_5]] w fun e w'=>∃ v3_ v5_:Value,e = .returned (.agg #[.int .i64 r1,.int .i64 r2,.bool r3,v3_,.bool r5,v5_])∧Kd.R (Kd.int .i64) 3 w' w.heap.size (fun k_=>some k_≠(v5_:Value).ownBlock) v3_ r4∧Kd.R (Kd.int .i64) 3 w' w.heap.size (fun k_=>some k_≠(v3_:Value).ownBlock) v5_ r6∧Below w.heap.size w w':=by
 have hu30:=Try.underlying30;have HR0_3:=zzm hr0_3;have HC0_3:=zzm hc0_3;clear hr0_3 hc0_3;have HR0_5:=zzm hr0_5;have HC0_5:=zzm hc0_5;clear hr0_5 hc0_5;have HB:=zzm (Below.refl w.heap.size w);have H:((slices_Clone_int_int.f l0_3).bind fun t317=>((slices_Clone_int_int.f l0_5).bind fun t320=>(some (a0_0,a0_1,a0_2,t317,a0_4,t320))))=some (r1,r2,r3,r4,r5,r6):=h;clear h;replace H:=Option.bind_eq_some_iff.mp H;obtain ⟨t317,A20,H⟩:=H;replace H:((slices_Clone_int_int.f l0_5).bind fun t320=>(some (a0_0,a0_1,a0_2,t317,a0_4,t320)))=some (r1,r2,r3,r4,r5,r6):=H;have A2:=zzm A20;clear A20;replace H:=Option.bind_eq_some_iff.mp H;obtain ⟨t320,A30,H⟩:=H;replace H:(some (a0_0,a0_1,a0_2,t317,a0_4,t320))=some (r1,r2,r3,r4,r5,r6):=H;have A3:=zzm A30;clear A30;simp only [Option.some.injEq,Prod.mk.injEq] at H;obtain ⟨rfl,rfl,rfl,rfl,rfl,rfl⟩:=H;go_enter Try.func42,Try.ntmps42;go_wp2_with (first|((with_reducible refine gate_dst (N:=1) rfl ?_);refine box_event ?hg (N:=1) ?hd (cs:=#[.int .i64 a0_0,.int .i64 a0_1,.bool a0_2,.slice A0_3 l0_3.length c0_3,.bool a0_4,.slice A0_5 l0_5.length c0_5]) (t:=30) ?hr ?_;(case hd=>rfl);(case hg=>rfl);(case hr=>first|(go_simp;done)|(go_simp;rfl));intro gb315 hg w4 hbox hb;have n0_:=zzm (zzp zzh1 hb);have n1_:=zzm (hbox);have n2_:=zzm ((by rw [hg];exact (zzo zzh1):w.heap.size≤gb315));have n3_:=zzm ((by rw [hg];exact (zzo zzh1):w.heap.size≤gb315));clear HB;have HB:=n0_;have BK315:=n1_;have GW315:=n2_;have GE315:=n3_;clear n0_ n1_ n2_ n3_ hb hbox hg)|((with_reducible refine gate_dst (N:=2) rfl ?_);refine box_event ?hg (N:=2) ?hd (cs:=#[.int .i64 0,.int .i64 0,.bool false,.slice none 0 0,.bool false,.slice none 0 0]) (t:=30) ?hr ?_;(case hd=>rfl);(case hg=>rfl);(case hr=>first|(go_simp;done)|(go_simp;rfl));intro gb316 hg w5 hbox hb;have n0_:=zzm (zzh (g:=gb315) (o:=.cells #[.int .i64 a0_0,.int .i64 a0_1,.bool a0_2,.slice A0_3 l0_3.length c0_3,.bool a0_4,.slice A0_5 l0_5.length c0_5] 30 (0,0)) (zzE BK315.out) hb);have n1_:=zzm (zzp zzh2 hb);have n2_:=zzm (hbox);have n3_:=zzm ((by rw [hg];exact (zzo zzh2):w.heap.size≤gb316));have n4_:=zzm ((by rw [hg];exact (zzo zzh2):w.heap.size≤gb316));have n5_:=zzm ((by rw [hg];exact Nat.ne_of_lt (blk_lt (g:=gb315) (o:=.cells #[.int .i64 a0_0,.int .i64 a0_1,.bool a0_2,.slice A0_3 l0_3.length c0_3,.bool a0_4,.slice A0_5 l0_5.length c0_5] 30 (0,0)) (zzE BK315.out)):gb315≠gb316));have n6_:=zzm ((by rw [hg];exact Nat.ne_of_gt (blk_lt (g:=gb315) (o:=.cells #[.int .i64 a0_0,.int .i64 a0_1,.bool a0_2,.slice A0_3 l0_3.length c0_3,.bool a0_4,.slice A0_5 l0_5.length c0_5] 30 (0,0)) (zzE BK315.out)):gb316≠gb315));clear BK315 HB;have BK315:=n0_;have HB:=n1_;have BK316:=n2_;have GW316:=n3_;have GE316:=n4_;have NB315_316:=n5_;have NB316_315:=n6_;clear n0_ n1_ n2_ n3_ n4_ n5_ n6_ hb hbox hg;have hnb6:=NB315_316.out;have hnc6:=NB316_315.out;obtain ⟨hcz7_0,hcz7_1,hcz7_2,hcz7_3,hcz7_4,hcz7_5,hfz7_0,hfz7_1,hfz7_2,hfz7_3,hfz7_4,hfz7_5⟩:=zzc6 BK315.out)|((with_reducible refine gate_callee (f:=71) rfl ?_);refine goesL_ (some 5) rfl rfl Try.func71 (by kernel_rfl) rfl #[.slice A0_3 l0_3.length c0_3] rfl zzM2 ?_;(with_reducible refine (slices_Clone_int_int.calls _ _ l0_3 t317 _ ?side1 ?side2 A2.out).mono ?_);(case side1=>repeat (first|exact (Kd.C_below HR0_3.out HB.out)|(with_reducible refine Kd.C_alloc ?_ _)|(with_reducible refine Kd.C_drewN ?_ _)|(with_reducible refine Kd.C_drew ?_)));(case side2=>exact HC0_3.out);rintro e w8 ⟨v318,rfl,ho0,hb⟩;refine ⟨_,rfl,?_⟩;have n0_:=zzm (Kd.R_lower ho0 (zzo zzh2));have n1_:=zzm (zzh (g:=gb315) (o:=.cells #[.int .i64 a0_0,.int .i64 a0_1,.bool a0_2,.slice A0_3 l0_3.length c0_3,.bool a0_4,.slice A0_5 l0_5.length c0_5] 30 (0,0)) (zzE BK315.out) hb);have n2_:=zzm (zzh (g:=gb316) (o:=.cells #[.int .i64 0,.int .i64 0,.bool false,.slice none 0 0,.bool false,.slice none 0 0] 30 (0,0)) (zzE BK316.out) hb);have n3_:=zzm (zzp zzh2 hb);clear BK315 BK316 HB;have HO319:=n0_;have BK315:=n1_;have BK316:=n2_;have HB:=n3_;clear n0_ n1_ n2_ n3_;(try clear hb);(try clear hb2);(try clear hk);(try clear hi);(try clear ho0);obtain ⟨Ao9,co9,eo9⟩:=Kd.R_slice HO319.out;subst eo9;obtain ⟨hcz10_0,hcz10_1,hcz10_2,hcz10_3,hcz10_4,hcz10_5,hfz10_0,hfz10_1,hfz10_2,hfz10_3,hfz10_4,hfz10_5⟩:=zzc6 BK315.out)|((with_reducible refine gate_callee (f:=71) rfl ?_);refine goesL_ (some 9) rfl rfl Try.func71 (by kernel_rfl) rfl #[.slice A0_5 l0_5.length c0_5] rfl zzM2 ?_;(with_reducible refine (slices_Clone_int_int.calls _ _ l0_5 t320 _ ?side1 ?side2 A3.out).mono ?_);(case side1=>exact Kd.C_below HR0_5.out zzh2);(case side2=>exact HC0_5.out);rintro e w11 ⟨v321,rfl,ho0,hb⟩;refine ⟨_,rfl,?_⟩;have n0_:=zzm (Kd.R_elder' (by (with_reducible repeat (first|apply Kd.R_alloc|apply Kd.R_drewN|apply Kd.R_drew));exact (Kd.R_mono (Kd.R_far (p:=⟨gb315,3,none⟩) (Kd.R_types HO319.out BK315.out (by decide)) (fun _ hk=>hk.2) (.slice Ao9 t317.length co9)) (fun _ h_=>h_.1))) (Kd.R_base ho0) hb);have n1_:=zzm (Kd.R_lower (Kd.R_new' ho0 (Kd.R_lt (by (with_reducible repeat (first|apply Kd.R_alloc|apply Kd.R_drewN|apply Kd.R_drew));exact (Kd.R_mono (Kd.R_far (p:=⟨gb315,3,none⟩) (Kd.R_types HO319.out BK315.out (by decide)) (fun _ hk=>hk.2) (.slice Ao9 t317.length co9)) (fun _ h_=>h_.1))))) (zzo zzh2));have n2_:=zzm (zzh (g:=gb315) (o:=.cells #[.int .i64 a0_0,.int .i64 a0_1,.bool a0_2,.slice Ao9 t317.length co9,.bool a0_4,.slice A0_5 l0_5.length c0_5] 30 (0,0)) (by (with_reducible repeat (first|apply zzf|apply zzg|apply zze));refine zzi (cs:=#[.int .i64 a0_0,.int .i64 a0_1,.bool a0_2,.slice A0_3 l0_3.length c0_3,.bool a0_4,.slice A0_5 l0_5.length c0_5]) ?_ 3 _ rfl;(with_reducible repeat (first|apply zzf|apply zzg|apply zze));exact BK315.out) hb);have n3_:=zzm (zzh (g:=gb316) (o:=.cells #[.int .i64 0,.int .i64 0,.bool false,.slice none 0 0,.bool false,.slice none 0 0] 30 (0,0)) (by (with_reducible repeat (first|apply zzf|apply zzg|apply zze));refine zzj ?_ NB316_315.out _;(with_reducible repeat (first|apply zzf|apply zzg|apply zze));exact BK316.out) hb);have n4_:=zzm (zzp zzh2 hb);clear HO319 BK315 BK316 HB;have HO319:=n0_;have HO322:=n1_;have BK315:=n2_;have BK316:=n3_;have HB:=n4_;clear n0_ n1_ n2_ n3_ n4_;(try clear hb);(try clear hb2);(try clear hk);(try clear hi);(try clear ho0);obtain ⟨Ao12,co12,eo12⟩:=Kd.R_slice HO322.out;subst eo12;obtain ⟨hcz13_0,hcz13_1,hcz13_2,hcz13_3,hcz13_4,hcz13_5,hfz13_0,hfz13_1,hfz13_2,hfz13_3,hfz13_4,hfz13_5⟩:=zzc6 BK315.out;obtain ⟨hcz14_0,hcz14_1,hcz14_2,hcz14_3,hcz14_4,hcz14_5,hfz14_0,hfz14_1,hfz14_2,hfz14_3,hfz14_4,hfz14_5⟩:=zzc6 BK316.out));refine bodyPost_ret (results_cell_row rfl _ _ gb316 30 #[.int .i64 a0_0,.int .i64 a0_1,.bool a0_2,.slice Ao9 t317.length co9,.bool a0_4,.slice Ao12 t320.length co12] (0,0) _ rfl (by (with_reducible repeat (first|apply zzf|apply zzg|apply zze));refine zzi (cs:=#[.int .i64 a0_0,.int .i64 a0_1,.bool a0_2,.slice Ao9 t317.length co9,.bool a0_4,.slice none 0 0]) ?_ 5 _ rfl;(with_reducible repeat (first|apply zzf|apply zzg|apply zze));refine zzi (cs:=#[.int .i64 a0_0,.int .i64 a0_1,.bool a0_2,.slice Ao9 t317.length co9,.bool false,.slice none 0 0]) ?_ 4 _ rfl;(with_reducible repeat (first|apply zzf|apply zzg|apply zze));refine zzi (cs:=#[.int .i64 a0_0,.int .i64 a0_1,.bool a0_2,.slice none 0 0,.bool false,.slice none 0 0]) ?_ 3 _ rfl;(with_reducible repeat (first|apply zzf|apply zzg|apply zze));refine zzi (cs:=#[.int .i64 a0_0,.int .i64 a0_1,.bool false,.slice none 0 0,.bool false,.slice none 0 0]) ?_ 2 _ rfl;(with_reducible repeat (first|apply zzf|apply zzg|apply zze));refine zzi (cs:=#[.int .i64 a0_0,.int .i64 0,.bool false,.slice none 0 0,.bool false,.slice none 0 0]) ?_ 1 _ rfl;(with_reducible repeat (first|apply zzf|apply zzg|apply zze));refine zzi (cs:=#[.int .i64 0,.int .i64 0,.bool false,.slice none 0 0,.bool false,.slice none 0 0]) ?_ 0 _ rfl;(with_reducible repeat (first|apply zzf|apply zzg|apply zze));refine zzj ?_ NB316_315.out _;(with_reducible repeat (first|apply zzf|apply zzg|apply zze));exact BK316.out) Try.underlying30 rfl (by kernel_rfl)) rfl ?_;exact ⟨_,_,by first|rfl|(simp [errW_none,errW_some] <;> rfl)|(simp [*,errW_none,errW_some] <;> rfl),by (with_reducible repeat (first|apply Kd.R_alloc|apply Kd.R_drewN|apply Kd.R_drew));exact Kd.R_mono (Kd.R_far (p:=⟨gb316,5,none⟩) (Kd.R_far (p:=⟨gb316,4,none⟩) (Kd.R_far (p:=⟨gb316,3,none⟩) (Kd.R_far (p:=⟨gb316,2,none⟩) (Kd.R_far (p:=⟨gb316,1,none⟩) (Kd.R_far (p:=⟨gb316,0,none⟩) (Kd.R_far (p:=⟨gb315,5,none⟩) (Kd.R_types (Kd.R_types HO319.out BK315.out (by decide)) BK316.out (by decide)) (fun _ hk=>hk.1.2) (.slice Ao12 t320.length co12)) (fun _ hk=>hk.2) (.int .i64 a0_0)) (fun _ hk=>hk.2) (.int .i64 a0_1)) (fun _ hk=>hk.2) (.bool a0_2)) (fun _ hk=>hk.2) (.slice Ao9 t317.length co9)) (fun _ hk=>hk.2) (.bool a0_4)) (fun _ hk=>hk.2) (.slice Ao12 t320.length co12)) (fun _ hk=>hk.1.1.2),by (with_reducible repeat (first|apply Kd.R_alloc|apply Kd.R_drewN|apply Kd.R_drew));exact Kd.R_mono (Kd.R_far (p:=⟨gb316,5,none⟩) (Kd.R_far (p:=⟨gb316,4,none⟩) (Kd.R_far (p:=⟨gb316,3,none⟩) (Kd.R_far (p:=⟨gb316,2,none⟩) (Kd.R_far (p:=⟨gb316,1,none⟩) (Kd.R_far (p:=⟨gb316,0,none⟩) (Kd.R_far (p:=⟨gb315,5,none⟩) (Kd.R_types (Kd.R_types HO322.out BK315.out (by decide)) BK316.out (by decide)) (fun _ hk=>hk.1.2) (.slice Ao12 t320.length co12)) (fun _ hk=>hk.2) (.int .i64 a0_0)) (fun _ hk=>hk.2) (.int .i64 a0_1)) (fun _ hk=>hk.2) (.bool a0_2)) (fun _ hk=>hk.2) (.slice Ao9 t317.length co9)) (fun _ hk=>hk.2) (.bool a0_4)) (fun _ hk=>hk.2) (.slice Ao12 t320.length co12)) (fun _ hk=>hk.1.1.2),by repeat (first|(with_reducible first|exact HB.out|apply zza|apply zzb|apply zzc|refine zzd ?_ GE315.out|refine zzd ?_ GE316.out)|exact HB.out)⟩
def Q8.f (a0_0:Bool) (a0_1:Bool) (a0_2:Int) (a0_3:Int) (a0_4:Int) (l0_5:List (S30)):Option (Int):=if 0≤(wrap64 ((l0_5.length:Int) - 1)) then (if (wrap64 ((l0_5.length:Int) - 1)) < (l0_5.length:Int) then (some ((Qb l0_5 (wrap64 ((l0_5.length:Int) - 1))).f0)) else (none)) else (none)
set_option maxHeartbeats 8000000 in
set_option maxRecDepth 100000 in
theorem Q8.calls (a0_0:Bool) (a0_1:Bool) (a0_2:Int) (a0_3:Int) (a0_4:Int) (A0_5:Option Addr) (c0_5:Nat) (l0_5:List (S30)) (r:Int) (w:World) (hr0_5:Kd.C k30 w A0_5 l0_5.length l0_5) (hc0_5:l0_5.length≤c0_5) (h:Q8.f a0_0 a0_1 a0_2 a0_3 a0_4 l0_5=some r) :
  Calls Try.prog 72 #[.agg #[.bool a0_0,.bool a0_1,.int .i64 a0_2,.int .i64 a0_3,.int .i64 a0_4,.slice A0_5 l0_5.length c0_5]] w fun e w'=>e = .returned (.int .i64 r)∧Below w.heap.size w w':=by
 have hu34:=Try.underlying34;have HR0_5:=zzm hr0_5;have HC0_5:=zzm hc0_5;clear hr0_5 hc0_5;have HB:=zzm (Below.refl w.heap.size w);have H:(if 0≤(wrap64 ((l0_5.length:Int) - 1)) then (if (wrap64 ((l0_5.length:Int) - 1)) < (l0_5.length:Int) then (some ((Qb l0_5 (wrap64 ((l0_5.length:Int) - 1))).f0)) else (none)) else (none))=some r:=h;clear h;obtain ⟨ji2,hji2⟩:∃ j_:Int,(wrap64 ((l0_5.length:Int) - 1))=j_:=⟨_,rfl⟩;replace H:(if 0≤(ji2) then (if (ji2) < (l0_5.length:Int) then (some ((Qb l0_5 (ji2)).f0)) else (none)) else (none))=some r:=by first|(rw [hji2] at H;exact H)|(simp only [hji2] at H ⊢;exact H)
 have hji2w:(IntKind.i64.wrap ((l0_5.length:Int) - 1))=ji2:=(i64_w _).trans hji2;by_cases c3 : 0≤(ji2)
 ·
  rw [if_pos c3] at H;have c3b0:decide (0≤(ji2))=true:=decide_eq_true c3;clear c3;by_cases c4:(ji2) < (l0_5.length:Int)
  ·
   rw [if_pos c4] at H;have c4b0:decide ((ji2) < (l0_5.length:Int))=true:=decide_eq_true c4;clear c4;obtain rfl:=Option.some.inj H;go_enter Try.func72,Try.ntmps72;go_wp2_with (first|((with_reducible refine gate_dst (N:=1) rfl ?_);refine box_event ?hg (N:=1) ?hd (cs:=#[.bool a0_0,.bool a0_1,.int .i64 a0_2,.int .i64 a0_3,.int .i64 a0_4,.slice A0_5 l0_5.length c0_5]) (t:=34) ?hr ?_;(case hd=>rfl);(case hg=>rfl);(case hr=>first|(go_simp;done)|(go_simp;rfl));intro gb323 hg w5 hbox hb;have n0_:=zzm (zzp zzh1 hb);have n1_:=zzm (hbox);have n2_:=zzm ((by rw [hg];exact (zzo zzh1):w.heap.size≤gb323));have n3_:=zzm ((by rw [hg];exact (zzo zzh1):w.heap.size≤gb323));clear HB;have HB:=n0_;have BK323:=n1_;have GW323:=n2_;have GE323:=n3_;clear n0_ n1_ n2_ n3_ hb hbox hg;obtain ⟨hcz6_0,hcz6_1,hcz6_2,hcz6_3,hcz6_4,hcz6_5,hfz6_0,hfz6_1,hfz6_2,hfz6_3,hfz6_4,hfz6_5⟩:=zzc6 BK323.out;have p324 : 0≤((ji2):Int):=zzt;have q324:(ji2) < (l0_5.length:Int):=zzt;obtain ⟨ad324,A324_3,c324_3,A324_5,c324_5,e324,hx324_0,hx324_1,hx324_2,hx324_3,hx324_4,hx324_5,hl324_3,hi324_3,hl324_5,hi324_5⟩:=Qy HR0_5.out (ji2) p324 q324;cases e324;replace hx324_0:=zzx HB.out hx324_0;replace hx324_1:=zzx HB.out hx324_1;replace hx324_2:=zzx HB.out hx324_2;replace hx324_3:=zzx HB.out hx324_3;replace hx324_4:=zzx HB.out hx324_4;replace hx324_5:=zzx HB.out hx324_5;have HR324_3:=zzm hi324_3;have HC324_3:=zzm hl324_3;clear hi324_3 hl324_3;have HR324_5:=zzm hi324_5;have HC324_5:=zzm hl324_5;clear hi324_5 hl324_5;replace p324:=eq_true p324;replace q324:=eq_true q324));go_ret;exact ⟨by first|rfl|(simp [errW_none,errW_some] <;> rfl)|(simp only [← hji2];first|rfl|(simp [errW_none,errW_some] <;> rfl))|(simp [*,errW_none,errW_some] <;> rfl),by repeat (first|(with_reducible first|exact HB.out|apply zza|apply zzb|apply zzc|refine zzd ?_ GE323.out)|exact HB.out)⟩
  ·
   rw [if_neg c4] at H;exact absurd H (by simp)
 ·
  rw [if_neg c3] at H;exact absurd H (by simp)
def Qo.l0:Nat→List (S34)→Int→Option (Bool)
 | 0,_,_=>none
 | k+1,x0,x3=>if x3 < (x0.length:Int) then (if 0≤x3 then ((Qi.f k ((Qa x0 x3).f0) ((Qa x0 x3).f1) ((Qa x0 x3).f2) ((Qa x0 x3).f3) ((Qa x0 x3).f4) ((Qa x0 x3).f5)).bind fun t326=>(if t326=true then (if x3 > 0 then (if 0≤(wrap64 (x3 - 1)) then (if (wrap64 (x3 - 1)) < (x0.length:Int) then ((Q8.f ((Qa x0 (wrap64 (x3 - 1))).f0) ((Qa x0 (wrap64 (x3 - 1))).f1) ((Qa x0 (wrap64 (x3 - 1))).f2) ((Qa x0 (wrap64 (x3 - 1))).f3) ((Qa x0 (wrap64 (x3 - 1))).f4) ((Qa x0 (wrap64 (x3 - 1))).f5)).bind fun t328=>(if 0 < (((Qa x0 x3).f5).length:Int) then (if t328 ≥ ((Qb ((Qa x0 x3).f5) 0).f0) then (some false) else (Qo.l0 k x0 (wrap64 (x3+1)))) else (none))) else (none)) else (none)) else (Qo.l0 k x0 (wrap64 (x3+1)))) else (some false))) else (none)) else (some (decide ((x0.length:Int)≤8)))
def Qo.f (k:Nat) (l0:List (S34)):Option (Bool):=Qo.l0 k l0 0
def Qo.T4:Bool×List (List Nat×List Nat):=(true,[([],[]),([],[]),([0,1],[0,1]),([2],[2]),([3],[3]),([4],[4]),([5,4],[5]),([6],[6]),([7,6],[6,7]),([8,6,6],[6,8]),([9],[9]),([9],[9]),([11,9],[9,11]),([10,12,9],[9,10,12]),([13,9],[9,13]),([14,9,9],[9,14]),([9],[9]),([9],[9]),([16,17,9],[9,16,17]),([18,9],[9,18]),([19,9],[9,19]),([20,9],[9,20]),([21,9],[9,21]),([22,9],[9,22]),([15,23,9],[9,15,23]),([9,24,6],[6,9,24]),([6,25],[6,25])])
def Qo.B4:List Nat:=[0,0,3,7,15,31,63,127,255,511,1023,1023,3071,8191,16383,32767,1023,1023,197631,459775,984063,2032639,4129791,8324095,16777215,33554431,67108863]
theorem Qo.tab4:rtab .any (opsOf Try.f43 4)=Qo.T4:=by kernel_rfl
theorem Qo.bits4:waitsOk Qo.T4.2 Qo.B4=true:=by kernel_rfl
set_option maxHeartbeats 8000000 in
set_option maxRecDepth 100000 in
theorem Qo.calls (k:Nat) (A0:Option Addr) (c0:Nat) (l0:List (S34)) (r:Bool) (w:World) (hr0:Kd.C k34 w A0 l0.length l0) (hc0:l0.length≤c0) (h:Qo.f k l0=some r) :
  Calls Try.prog 43 #[.slice A0 l0.length c0] w fun e w'=>e = .returned (.bool r)∧Below w.heap.size w w':=by
 have hu34:=Try.underlying34;have HR0:=zzm hr0;have HC0:=zzm hc0;clear hr0 hc0;have HB:=zzm (Below.refl w.heap.size w);have H:(Qo.l0 k l0 0)=some r:=h;clear h;have H':=zzm H;clear H;go_enter Try.func43,Try.ntmps43;go_wp2;go_loopg [3] k (fun kq v3 w'=>∃ (x3_1:Int),v3 = .int .i64 x3_1∧Aside0 (Qo.l0 kq l0 x3_1=some r)∧Aside0 (kq≤k)∧Aside0 (Below w.heap.size w w'))
 case atStart=>exact ⟨(0),(by first|rfl|(simp;done)|(simp [*];done)),H',⟨Nat.le_refl _⟩,⟨zzh1⟩⟩
 case round=>
  clear H';obtain ⟨x3_1,rfl,HA,HK1,HB⟩:=hrel;cases gk with
  | zero=>exact absurd HA.out (by simp [Qo.l0])
  | succ k1=>
   have H:=HA.out;clear HA;simp only [Qo.l0] at H;by_cases c2:x3_1 < (l0.length:Int)
   ·
    rw [if_pos c2] at H;have c2b0:decide (x3_1 < (l0.length:Int))=true:=decide_eq_true c2;clear c2;by_cases c3 : 0≤x3_1
    ·
     rw [if_pos c3] at H;have c3b0:decide (0≤x3_1)=true:=decide_eq_true c3;clear c3;replace H:=Option.bind_eq_some_iff.mp H;obtain ⟨t326,A40,H⟩:=H;replace H:(if t326=true then (if x3_1 > 0 then (if 0≤(wrap64 (x3_1 - 1)) then (if (wrap64 (x3_1 - 1)) < (l0.length:Int) then ((Q8.f ((Qa l0 (wrap64 (x3_1 - 1))).f0) ((Qa l0 (wrap64 (x3_1 - 1))).f1) ((Qa l0 (wrap64 (x3_1 - 1))).f2) ((Qa l0 (wrap64 (x3_1 - 1))).f3) ((Qa l0 (wrap64 (x3_1 - 1))).f4) ((Qa l0 (wrap64 (x3_1 - 1))).f5)).bind fun t328=>(if 0 < (((Qa l0 x3_1).f5).length:Int) then (if t328 ≥ ((Qb ((Qa l0 x3_1).f5) 0).f0) then (some false) else (Qo.l0 k1 l0 (wrap64 (x3_1+1)))) else (none))) else (none)) else (none)) else (Qo.l0 k1 l0 (wrap64 (x3_1+1)))) else (some false))=some r:=H;have A4:=zzm A40;clear A40;by_cases c5:t326=true
     ·
      subst c5;have H1:(if x3_1 > 0 then (if 0≤(wrap64 (x3_1 - 1)) then (if (wrap64 (x3_1 - 1)) < (l0.length:Int) then ((Q8.f ((Qa l0 (wrap64 (x3_1 - 1))).f0) ((Qa l0 (wrap64 (x3_1 - 1))).f1) ((Qa l0 (wrap64 (x3_1 - 1))).f2) ((Qa l0 (wrap64 (x3_1 - 1))).f3) ((Qa l0 (wrap64 (x3_1 - 1))).f4) ((Qa l0 (wrap64 (x3_1 - 1))).f5)).bind fun t328=>(if 0 < (((Qa l0 x3_1).f5).length:Int) then (if t328 ≥ ((Qb ((Qa l0 x3_1).f5) 0).f0) then (some false) else (Qo.l0 k1 l0 (wrap64 (x3_1+1)))) else (none))) else (none)) else (none)) else (Qo.l0 k1 l0 (wrap64 (x3_1+1))))=some r:=by rw [if_pos rfl] at H;exact H
      clear H;have H:=H1;clear H1;by_cases c6:x3_1 > 0
      ·
       rw [if_pos c6] at H;have c6b0:decide (0 < x3_1)=true:=decide_eq_true c6;clear c6;obtain ⟨ji7,hji7⟩:∃ j_:Int,(wrap64 (x3_1 - 1))=j_:=⟨_,rfl⟩;replace H:(if 0≤(ji7) then (if (ji7) < (l0.length:Int) then ((Q8.f ((Qa l0 (ji7)).f0) ((Qa l0 (ji7)).f1) ((Qa l0 (ji7)).f2) ((Qa l0 (ji7)).f3) ((Qa l0 (ji7)).f4) ((Qa l0 (ji7)).f5)).bind fun t328=>(if 0 < (((Qa l0 x3_1).f5).length:Int) then (if t328 ≥ ((Qb ((Qa l0 x3_1).f5) 0).f0) then (some false) else (Qo.l0 k1 l0 (wrap64 (x3_1+1)))) else (none))) else (none)) else (none))=some r:=by first|(rw [hji7] at H;exact H)|(simp only [hji7] at H ⊢;exact H)
       (try rw [hji7] at A4);have hji7w:(IntKind.i64.wrap (x3_1 - 1))=ji7:=(i64_w _).trans hji7;by_cases c8 : 0≤(ji7)
       ·
        rw [if_pos c8] at H;have c8b0:decide (0≤(ji7))=true:=decide_eq_true c8;clear c8;by_cases c9:(ji7) < (l0.length:Int)
        ·
         rw [if_pos c9] at H;have c9b0:decide ((ji7) < (l0.length:Int))=true:=decide_eq_true c9;clear c9;replace H:=Option.bind_eq_some_iff.mp H;obtain ⟨t328,A100,H⟩:=H;replace H:(if 0 < (((Qa l0 x3_1).f5).length:Int) then (if t328 ≥ ((Qb ((Qa l0 x3_1).f5) 0).f0) then (some false) else (Qo.l0 k1 l0 (wrap64 (x3_1+1)))) else (none))=some r:=H;have A10:=zzm A100;clear A100;by_cases c11 : 0 < (((Qa l0 x3_1).f5).length:Int)
         ·
          rw [if_pos c11] at H;have c11b0:decide (0 < (((Qa l0 x3_1).f5).length:Int))=true:=decide_eq_true c11;have c11b1:decide (0 < ((Qa l0 x3_1).f5).length)=true:=decide_eq_true (by omega);clear c11;by_cases c12:t328 ≥ ((Qb ((Qa l0 x3_1).f5) 0).f0)
          ·
           rw [if_pos c12] at H;have c12b0:decide (((Qb ((Qa l0 x3_1).f5) 0).f0)≤t328)=true:=decide_eq_true c12;clear c12;obtain rfl:=Option.some.inj H;try go_wp2
           have n0_:=zzm (zzc HB.out);clear HB;have HB:=n0_;clear n0_;have p325 : 0≤(x3_1:Int):=zzt;have q325:x3_1 < (l0.length:Int):=zzt;obtain ⟨ad325,A325_5,c325_5,e325,hx325_0,hx325_1,hx325_2,hx325_3,hx325_4,hx325_5,hl325_5,hi325_5⟩:=Qw HR0.out x3_1 p325 q325;have hw325_5:=hx325_5;have hw325_4:=hx325_4;have hw325_3:=hx325_3;have hw325_2:=hx325_2;have hw325_1:=hx325_1;have hw325_0:=hx325_0;cases e325;replace hx325_0:=zzx HB.out hx325_0;replace hx325_1:=zzx HB.out hx325_1;replace hx325_2:=zzx HB.out hx325_2;replace hx325_3:=zzx HB.out hx325_3;replace hx325_4:=zzx HB.out hx325_4;replace hx325_5:=zzx HB.out hx325_5;have HR325_5:=zzm hi325_5;have HC325_5:=zzm hl325_5;clear hi325_5 hl325_5;replace p325:=eq_true p325;replace q325:=eq_true q325;have p327 : 0≤((ji7):Int):=zzt;have q327:(ji7) < (l0.length:Int):=zzt;obtain ⟨ad327,A327_5,c327_5,e327,hx327_0,hx327_1,hx327_2,hx327_3,hx327_4,hx327_5,hl327_5,hi327_5⟩:=Qw HR0.out (ji7) p327 q327;have hw327_5:=hx327_5;have hw327_4:=hx327_4;have hw327_3:=hx327_3;have hw327_2:=hx327_2;have hw327_1:=hx327_1;have hw327_0:=hx327_0;obtain rfl:ad325=ad327:=(by injection e327);replace hx327_0:=zzx HB.out hx327_0;replace hx327_1:=zzx HB.out hx327_1;replace hx327_2:=zzx HB.out hx327_2;replace hx327_3:=zzx HB.out hx327_3;replace hx327_4:=zzx HB.out hx327_4;replace hx327_5:=zzx HB.out hx327_5;have HR327_5:=zzm hi327_5;have HC327_5:=zzm hl327_5;clear hi327_5 hl327_5;replace p327:=eq_true p327;replace q327:=eq_true q327;have p329 : 0≤(x3_1:Int):=zzt;have q329:x3_1 < (l0.length:Int):=zzt;obtain ⟨ad329,A329_5,c329_5,e329,hx329_0,hx329_1,hx329_2,hx329_3,hx329_4,hx329_5,hl329_5,hi329_5⟩:=Qw HR0.out x3_1 p329 q329;have hw329_5:=hx329_5;have hw329_4:=hx329_4;have hw329_3:=hx329_3;have hw329_2:=hx329_2;have hw329_1:=hx329_1;have hw329_0:=hx329_0;obtain rfl:ad325=ad329:=(by injection e329);replace hx329_0:=zzx HB.out hx329_0;replace hx329_1:=zzx HB.out hx329_1;replace hx329_2:=zzx HB.out hx329_2;replace hx329_3:=zzx HB.out hx329_3;replace hx329_4:=zzx HB.out hx329_4;replace hx329_5:=zzx HB.out hx329_5;have HR329_5:=zzm hi329_5;have HC329_5:=zzm hl329_5;clear hi329_5 hl329_5;replace p329:=eq_true p329;replace q329:=eq_true q329;have p330 : 0≤(0:Int):=(by omega);have q330 : 0 < (((Qa l0 x3_1).f5).length:Int):=zzt;have eA_:A329_5=A325_5:=by have e_:=Option.some.inj (hw325_5.symm.trans hw329_5);injection e_ with e1_ _ e3_;exact e1_.symm
           have eC_:c329_5=c325_5:=by have e_:=Option.some.inj (hw325_5.symm.trans hw329_5);injection e_ with e1_ _ e3_;exact e3_.symm
           subst A329_5;subst c329_5;obtain ⟨ad330,A330_3,c330_3,A330_5,c330_5,e330,hx330_0,hx330_1,hx330_2,hx330_3,hx330_4,hx330_5,hl330_3,hi330_3,hl330_5,hi330_5⟩:=Qy HR329_5.out 0 p330 q330;have hw330_5:=hx330_5
           (try rw [show ((0:Int)).toNat=0 from rfl] at hw330_5)
           (try rw [show 0 * 6=0 from rfl] at hw330_5)
           (try rw [Addr.add_zero'] at hw330_5);have hw330_4:=hx330_4
           (try rw [show ((0:Int)).toNat=0 from rfl] at hw330_4)
           (try rw [show 0 * 6=0 from rfl] at hw330_4)
           (try rw [Addr.add_zero'] at hw330_4);have hw330_3:=hx330_3
           (try rw [show ((0:Int)).toNat=0 from rfl] at hw330_3)
           (try rw [show 0 * 6=0 from rfl] at hw330_3)
           (try rw [Addr.add_zero'] at hw330_3);have hw330_2:=hx330_2
           (try rw [show ((0:Int)).toNat=0 from rfl] at hw330_2)
           (try rw [show 0 * 6=0 from rfl] at hw330_2)
           (try rw [Addr.add_zero'] at hw330_2);have hw330_1:=hx330_1
           (try rw [show ((0:Int)).toNat=0 from rfl] at hw330_1)
           (try rw [show 0 * 6=0 from rfl] at hw330_1)
           (try rw [Addr.add_zero'] at hw330_1);have hw330_0:=hx330_0
           (try rw [show ((0:Int)).toNat=0 from rfl] at hw330_0)
           (try rw [show 0 * 6=0 from rfl] at hw330_0)
           (try rw [Addr.add_zero'] at hw330_0);cases e330;have qi330:(0 < ((Qa l0 x3_1).f5).length)=True:=eq_true (by omega)
           (try rw [show ((0:Int)).toNat=0 from rfl] at hx330_0)
           (try rw [show 0 * 6=0 from rfl] at hx330_0)
           (try rw [Addr.add_zero'] at hx330_0)
           (try rw [show ((0:Int)).toNat=0 from rfl] at hx330_1)
           (try rw [show 0 * 6=0 from rfl] at hx330_1)
           (try rw [Addr.add_zero'] at hx330_1)
           (try rw [show ((0:Int)).toNat=0 from rfl] at hx330_2)
           (try rw [show 0 * 6=0 from rfl] at hx330_2)
           (try rw [Addr.add_zero'] at hx330_2)
           (try rw [show ((0:Int)).toNat=0 from rfl] at hx330_3)
           (try rw [show 0 * 6=0 from rfl] at hx330_3)
           (try rw [Addr.add_zero'] at hx330_3)
           (try rw [show ((0:Int)).toNat=0 from rfl] at hx330_4)
           (try rw [show 0 * 6=0 from rfl] at hx330_4)
           (try rw [Addr.add_zero'] at hx330_4)
           (try rw [show ((0:Int)).toNat=0 from rfl] at hx330_5)
           (try rw [show 0 * 6=0 from rfl] at hx330_5)
           (try rw [Addr.add_zero'] at hx330_5);replace hx330_0:=zzx HB.out hx330_0;replace hx330_1:=zzx HB.out hx330_1;replace hx330_2:=zzx HB.out hx330_2;replace hx330_3:=zzx HB.out hx330_3;replace hx330_4:=zzx HB.out hx330_4;replace hx330_5:=zzx HB.out hx330_5;have HR330_3:=zzm hi330_3;have HC330_3:=zzm hl330_3;clear hi330_3 hl330_3;have HR330_5:=zzm hi330_5;have HC330_5:=zzm hl330_5;clear hi330_5 hl330_5;replace p330:=eq_true p330;replace q330:=eq_true q330;refine start_ (n:=27) (S:=fun w'=>w'.cell? (ad325.add ((x3_1).toNat * 6))=some (.bool ((Qa l0 x3_1).f0))∧w'.cell? ⟨(ad325.add ((x3_1).toNat * 6)).block,(ad325.add ((x3_1).toNat * 6)).off+1,none⟩=some (.bool ((Qa l0 x3_1).f1))∧w'.cell? ⟨(ad325.add ((x3_1).toNat * 6)).block,(ad325.add ((x3_1).toNat * 6)).off+2,none⟩=some (.int .i64 ((Qa l0 x3_1).f2))∧w'.cell? ⟨(ad325.add ((x3_1).toNat * 6)).block,(ad325.add ((x3_1).toNat * 6)).off+3,none⟩=some (.int .i64 ((Qa l0 x3_1).f3))∧w'.cell? ⟨(ad325.add ((x3_1).toNat * 6)).block,(ad325.add ((x3_1).toNat * 6)).off+4,none⟩=some (.int .i64 ((Qa l0 x3_1).f4))∧w'.cell? ⟨(ad325.add ((x3_1).toNat * 6)).block,(ad325.add ((x3_1).toNat * 6)).off+5,none⟩=some (.slice (some ad330) ((Qa l0 x3_1).f5).length c325_5)∧w'.cell? (ad325.add (((ji7)).toNat * 6))=some (.bool ((Qa l0 (ji7)).f0))∧w'.cell? ⟨(ad325.add (((ji7)).toNat * 6)).block,(ad325.add (((ji7)).toNat * 6)).off+1,none⟩=some (.bool ((Qa l0 (ji7)).f1))∧w'.cell? ⟨(ad325.add (((ji7)).toNat * 6)).block,(ad325.add (((ji7)).toNat * 6)).off+2,none⟩=some (.int .i64 ((Qa l0 (ji7)).f2))∧w'.cell? ⟨(ad325.add (((ji7)).toNat * 6)).block,(ad325.add (((ji7)).toNat * 6)).off+3,none⟩=some (.int .i64 ((Qa l0 (ji7)).f3))∧w'.cell? ⟨(ad325.add (((ji7)).toNat * 6)).block,(ad325.add (((ji7)).toNat * 6)).off+4,none⟩=some (.int .i64 ((Qa l0 (ji7)).f4))∧w'.cell? ⟨(ad325.add (((ji7)).toNat * 6)).block,(ad325.add (((ji7)).toNat * 6)).off+5,none⟩=some (.slice A327_5 ((Qa l0 (ji7)).f5).length c327_5)∧w'.cell? (ad325.add ((x3_1).toNat * 6))=some (.bool ((Qa l0 x3_1).f0))∧w'.cell? ⟨(ad325.add ((x3_1).toNat * 6)).block,(ad325.add ((x3_1).toNat * 6)).off+1,none⟩=some (.bool ((Qa l0 x3_1).f1))∧w'.cell? ⟨(ad325.add ((x3_1).toNat * 6)).block,(ad325.add ((x3_1).toNat * 6)).off+2,none⟩=some (.int .i64 ((Qa l0 x3_1).f2))∧w'.cell? ⟨(ad325.add ((x3_1).toNat * 6)).block,(ad325.add ((x3_1).toNat * 6)).off+3,none⟩=some (.int .i64 ((Qa l0 x3_1).f3))∧w'.cell? ⟨(ad325.add ((x3_1).toNat * 6)).block,(ad325.add ((x3_1).toNat * 6)).off+4,none⟩=some (.int .i64 ((Qa l0 x3_1).f4))∧w'.cell? ⟨(ad325.add ((x3_1).toNat * 6)).block,(ad325.add ((x3_1).toNat * 6)).off+5,none⟩=some (.slice (some ad330) ((Qa l0 x3_1).f5).length c325_5)∧w'.cell? ad330=some (.int .i64 ((Qb ((Qa l0 x3_1).f5) 0).f0))∧w'.cell? ⟨ad330.block,ad330.off+1,none⟩=some (.int .i64 ((Qb ((Qa l0 x3_1).f5) 0).f1))∧w'.cell? ⟨ad330.block,ad330.off+2,none⟩=some (.bool ((Qb ((Qa l0 x3_1).f5) 0).f2))∧w'.cell? ⟨ad330.block,ad330.off+3,none⟩=some (.slice A330_3 ((Qb ((Qa l0 x3_1).f5) 0).f3).length c330_3)∧w'.cell? ⟨ad330.block,ad330.off+4,none⟩=some (.bool ((Qb ((Qa l0 x3_1).f5) 0).f4))∧w'.cell? ⟨ad330.block,ad330.off+5,none⟩=some (.slice A330_5 ((Qb ((Qa l0 x3_1).f5) 0).f5).length c330_5)) (ds:=[]) (zzB 27 0) (by kernel_rfl) rfl rfl ⟨(zzx HB.out hw325_0),(zzx HB.out hw325_1),(zzx HB.out hw325_2),(zzx HB.out hw325_3),(zzx HB.out hw325_4),(zzx HB.out hw325_5),(zzx HB.out hw327_0),(zzx HB.out hw327_1),(zzx HB.out hw327_2),(zzx HB.out hw327_3),(zzx HB.out hw327_4),(zzx HB.out hw327_5),(zzx HB.out hw329_0),(zzx HB.out hw329_1),(zzx HB.out hw329_2),(zzx HB.out hw329_3),(zzx HB.out hw329_4),(zzx HB.out hw329_5),(zzx HB.out hw330_0),(zzx HB.out hw330_1),(zzx HB.out hw330_2),(zzx HB.out hw330_3),(zzx HB.out hw330_4),(zzx HB.out hw330_5)⟩ (fun hHeld=>?_);refine with_tabW Qo.tab4 Qo.bits4 (fun HT_ HW_=>?_);generalize wr.drew=w13 at HB HR325_5 HR327_5 HR329_5 HR330_3 HR330_5 hx325_0 hx325_1 hx325_2 hx325_3 hx325_4 hx325_5 hx327_0 hx327_1 hx327_2 hx327_3 hx327_4 hx327_5 hx329_0 hx329_1 hx329_2 hx329_3 hx329_4 hx329_5 hx330_0 hx330_1 hx330_2 hx330_3 hx330_4 hx330_5 hHeld ⊢;refine pure_ (i:=0) (N:=some 10) (v:=?_) (a':=?_) (zzB 27 1) rfl rfl (zzA2 HT_.out) (fun _ _ _ h=>h) (Or.inl ⟨by rfl,?_⟩) ?_ ?_;rotate_left
           ·
            intro w';go_simp;with_reducible rfl
           rotate_left
           ·
            simp only [Act.put,zzq,zzr,zzs,i64_w,i32_w];rfl
           refine pure_ (i:=1) (N:=some 11) (v:=?_) (a':=?_) (zzB 27 3) rfl rfl (zzA2 HT_.out) (fun _ _ _ h=>h) (Or.inl ⟨by rfl,?_⟩) ?_ ?_;rotate_left
           ·
            intro w';go_simp;with_reducible rfl
           rotate_left
           ·
            simp only [Act.put,zzq,zzr,zzs,i64_w,i32_w];rfl
           refine pure_ (i:=2) (N:=some 12) (v:=?_) (a':=?_) (zzB 27 7) rfl rfl (zzA2 HT_.out) (fun _ _ _ h=>h) (Or.inl ⟨by rfl,?_⟩) ?_ ?_;rotate_left
           ·
            intro w';go_simp;with_reducible rfl
           rotate_left
           ·
            simp only [Act.put,zzq,zzr,zzs,i64_w,i32_w];rfl
           refine take_ (i:=3) (N:=some 13) (v:=?_) (a':=?_) (zzB 27 15) rfl rfl (take_ofW HT_.out HW_.out (by kernel_rfl)) (fun _ _ _ h=>h) (Or.inl ⟨by rfl,?_⟩) hHeld ?_ ?_;rotate_left
           ·
            rintro w' ⟨s0,s1,s2,s3,s4,s5,s6,s7,s8,s9,s10,s11,s12,s13,s14,s15,s16,s17,s18,s19,s20,s21,s22,s23⟩;go_simp;with_reducible rfl
           rotate_left
           ·
            simp only [Act.put,zzq,zzr,zzs,i64_w,i32_w];rfl
           refine one_ (i:=4) (N:=some 14) (zzB 27 31) rfl rfl (one_of HT_.out (by kernel_rfl)) (by decide) (fun K hK=>?_);refine goes_ Try.func66 (by kernel_rfl) rfl #[.agg #[.bool ((Qa l0 x3_1).f0),.bool ((Qa l0 x3_1).f1),.int .i64 ((Qa l0 x3_1).f2),.int .i64 ((Qa l0 x3_1).f3),.int .i64 ((Qa l0 x3_1).f4),.slice (some ad330) ((Qa l0 x3_1).f5).length c325_5]] (by rfl) rfl rfl zzM2 ?_;with_reducible refine (Qi.calls k1 ((Qa l0 x3_1).f0) ((Qa l0 x3_1).f1) ((Qa l0 x3_1).f2) ((Qa l0 x3_1).f3) ((Qa l0 x3_1).f4) _ _ ((Qa l0 x3_1).f5) true _ ?side1 ?side2 A4.out).mono ?_
           (case side1=>repeat (first|exact (Kd.C_below HR325_5.out HB.out)|(with_reducible refine Kd.C_alloc ?_ _)|(with_reducible refine Kd.C_drewN ?_ _)|(with_reducible refine Kd.C_drew ?_)))
           (case side2=>exact HC325_5.out);rintro e w14 ⟨rfl,hb⟩;refine ⟨_,rfl,?_⟩;have n0_:=zzm (zzp zzh1 hb);clear HB;have HB:=n0_;clear n0_
           (try clear hb)
           (try clear hb2)
           (try clear hk)
           (try clear hi);refine hK.out _ _ ⟨(zzx HB.out hw325_0),(zzx HB.out hw325_1),(zzx HB.out hw325_2),(zzx HB.out hw325_3),(zzx HB.out hw325_4),(zzx HB.out hw325_5),(zzx HB.out hw327_0),(zzx HB.out hw327_1),(zzx HB.out hw327_2),(zzx HB.out hw327_3),(zzx HB.out hw327_4),(zzx HB.out hw327_5),(zzx HB.out hw329_0),(zzx HB.out hw329_1),(zzx HB.out hw329_2),(zzx HB.out hw329_3),(zzx HB.out hw329_4),(zzx HB.out hw329_5),(zzx HB.out hw330_0),(zzx HB.out hw330_1),(zzx HB.out hw330_2),(zzx HB.out hw330_3),(zzx HB.out hw330_4),(zzx HB.out hw330_5)⟩ (fun hHeld=>?_);clear hK K;refine norm_ (a':=?_) ?_ ?_;rotate_left
           ·
            show Act.put _ (some 14) _ = _;simp only [Act.put,zzq,zzr,zzs,i64_w,i32_w];rfl
           refine pure_ (i:=5) (N:=some 15) (v:=?_) (a':=?_) (zzB 27 63) rfl rfl (zzA2 HT_.out) (fun _ _ _ h=>h) (Or.inl ⟨by rfl,?_⟩) ?_ ?_;rotate_left
           ·
            intro w';go_simp;with_reducible rfl
           rotate_left
           ·
            simp only [Act.put,zzq,zzr,zzs,i64_w,i32_w];rfl
           refine pure_ (i:=6) (N:=some 16) (v:=?_) (a':=?_) (zzB 27 127) rfl rfl (zzA2 HT_.out) (fun _ _ _ h=>h) (Or.inl ⟨by rfl,?_⟩) ?_ ?_;rotate_left
           ·
            intro w';go_simp;with_reducible rfl
           rotate_left
           ·
            simp only [Act.put,zzq,zzr,zzs,i64_w,i32_w];rfl
           refine pure_ (i:=7) (N:=some 17) (v:=?_) (a':=?_) (zzB 27 255) rfl rfl (zzA2 HT_.out) (fun _ _ _ h=>h) (Or.inl ⟨by rfl,?_⟩) ?_ ?_;rotate_left
           ·
            intro w';go_simp;with_reducible rfl
           rotate_left
           ·
            simp only [Act.put,zzq,zzr,zzs,i64_w,i32_w];rfl
           refine pure_ (i:=8) (N:=some 18) (v:=?_) (a':=?_) (zzB 27 511) rfl rfl (zzA2 HT_.out) (fun _ _ _ h=>h) (Or.inl ⟨by rfl,?_⟩) ?_ ?_;rotate_left
           ·
            intro w';go_simp;with_reducible rfl
           rotate_left
           ·
            simp only [Act.put,zzq,zzr,zzs,i64_w,i32_w];rfl
           refine pure_ (i:=9) (N:=some 19) (v:=?_) (a':=?_) (zzB 27 1023) rfl rfl (zzA2 HT_.out) (fun _ _ _ h=>h) (Or.inl ⟨by rfl,?_⟩) ?_ ?_;rotate_left
           ·
            intro w';go_simp;with_reducible rfl
           rotate_left
           ·
            simp only [Act.put,zzq,zzr,zzs,i64_w,i32_w];rfl
           refine pure_ (i:=10) (N:=some 20) (v:=?_) (a':=?_) (zzB 27 2047) rfl rfl (zzA2 HT_.out) (fun _ _ _ h=>h) (Or.inl ⟨by rfl,?_⟩) ?_ ?_;rotate_left
           ·
            intro w';go_simp;with_reducible rfl
           rotate_left
           ·
            simp only [Act.put,zzq,zzr,zzs,i64_w,i32_w];rfl
           refine pure_ (i:=11) (N:=some 21) (v:=?_) (a':=?_) (zzB 27 4095) rfl rfl (zzA2 HT_.out) (fun _ _ _ h=>h) (Or.inl ⟨by rfl,?_⟩) ?_ ?_;rotate_left
           ·
            intro w';go_simp;with_reducible rfl
           rotate_left
           ·
            simp only [Act.put,zzq,zzr,zzs,i64_w,i32_w];rfl
           refine pure_ (i:=12) (N:=some 22) (v:=?_) (a':=?_) (zzB 27 8191) rfl rfl (zzA2 HT_.out) (fun _ _ _ h=>h) (Or.inl ⟨by rfl,?_⟩) ?_ ?_;rotate_left
           ·
            intro w';go_simp;with_reducible rfl
           rotate_left
           ·
            simp only [Act.put,zzq,zzr,zzs,i64_w,i32_w];rfl
           refine pure_ (i:=13) (N:=some 23) (v:=?_) (a':=?_) (zzB 27 16383) rfl rfl (zzA2 HT_.out) (fun _ _ _ h=>h) (Or.inl ⟨by rfl,?_⟩) ?_ ?_;rotate_left
           ·
            intro w';go_simp;with_reducible rfl
           rotate_left
           ·
            simp only [Act.put,zzq,zzr,zzs,i64_w,i32_w];rfl
           refine pure_ (i:=16) (N:=some 26) (v:=?_) (a':=?_) (zzB 27 81919) rfl rfl (zzA2 HT_.out) (fun _ _ _ h=>h) (Or.inl ⟨by rfl,?_⟩) ?_ ?_;rotate_left
           ·
            intro w';go_simp;with_reducible rfl
           rotate_left
           ·
            simp only [Act.put,zzq,zzr,zzs,i64_w,i32_w];rfl
           refine pure_ (i:=17) (N:=some 27) (v:=?_) (a':=?_) (zzB 27 212991) rfl rfl (zzA2 HT_.out) (fun _ _ _ h=>h) (Or.inl ⟨by rfl,?_⟩) ?_ ?_;rotate_left
           ·
            intro w';go_simp;with_reducible rfl
           rotate_left
           ·
            simp only [Act.put,zzq,zzr,zzs,i64_w,i32_w];rfl
           refine pure_ (i:=18) (N:=some 28) (v:=?_) (a':=?_) (zzB 27 475135) rfl rfl (zzA2 HT_.out) (fun _ _ _ h=>h) (Or.inl ⟨by rfl,?_⟩) ?_ ?_;rotate_left
           ·
            intro w';go_simp;with_reducible rfl
           rotate_left
           ·
            simp only [Act.put,zzq,zzr,zzs,i64_w,i32_w];rfl
           refine pure_ (i:=19) (N:=some 29) (v:=?_) (a':=?_) (zzB 27 999423) rfl rfl (zzA2 HT_.out) (fun _ _ _ h=>h) (Or.inl ⟨by rfl,?_⟩) ?_ ?_;rotate_left
           ·
            intro w';go_simp;with_reducible rfl
           rotate_left
           ·
            simp only [Act.put,zzq,zzr,zzs,i64_w,i32_w];rfl
           refine take_ (i:=14) (N:=some 24) (v:=?_) (a':=?_) (zzB 27 1015807) rfl rfl (take_ofW HT_.out HW_.out (by kernel_rfl)) (fun _ _ _ h=>h) (Or.inl ⟨by rfl,?_⟩) hHeld ?_ ?_;rotate_left
           ·
            rintro w' ⟨s0,s1,s2,s3,s4,s5,s6,s7,s8,s9,s10,s11,s12,s13,s14,s15,s16,s17,s18,s19,s20,s21,s22,s23⟩;go_simp;with_reducible rfl
           rotate_left
           ·
            simp only [Act.put,zzq,zzr,zzs,i64_w,i32_w];rfl
           refine take_ (i:=20) (N:=some 30) (v:=?_) (a':=?_) (zzB 27 2064383) rfl rfl (take_ofW HT_.out HW_.out (by kernel_rfl)) (fun _ _ _ h=>h) (Or.inl ⟨by rfl,?_⟩) hHeld ?_ ?_;rotate_left
           ·
            rintro w' ⟨s0,s1,s2,s3,s4,s5,s6,s7,s8,s9,s10,s11,s12,s13,s14,s15,s16,s17,s18,s19,s20,s21,s22,s23⟩;go_simp;with_reducible rfl
           rotate_left
           ·
            simp only [Act.put,zzq,zzr,zzs,i64_w,i32_w];rfl
           refine pure_ (i:=21) (N:=some 31) (v:=?_) (a':=?_) (zzB 27 4161535) rfl rfl (zzA2 HT_.out) (fun _ _ _ h=>h) (Or.inl ⟨by rfl,?_⟩) ?_ ?_;rotate_left
           ·
            intro w';go_simp;with_reducible rfl
           rotate_left
           ·
            simp only [Act.put,zzq,zzr,zzs,i64_w,i32_w];rfl
           refine pure_ (i:=22) (N:=some 32) (v:=?_) (a':=?_) (zzB 27 8355839) rfl rfl (zzA2 HT_.out) (fun _ _ _ h=>h) (Or.inl ⟨by rfl,?_⟩) ?_ ?_;rotate_left
           ·
            intro w';go_simp;with_reducible rfl
           rotate_left
           ·
            simp only [Act.put,zzq,zzr,zzs,i64_w,i32_w];rfl
           refine take_ (i:=23) (N:=some 33) (v:=?_) (a':=?_) (zzB 27 16744447) rfl rfl (take_ofW HT_.out HW_.out (by kernel_rfl)) (fun _ _ _ h=>h) (Or.inl ⟨by rfl,?_⟩) hHeld ?_ ?_;rotate_left
           ·
            rintro w' ⟨s0,s1,s2,s3,s4,s5,s6,s7,s8,s9,s10,s11,s12,s13,s14,s15,s16,s17,s18,s19,s20,s21,s22,s23⟩;go_simp;with_reducible rfl
           rotate_left
           ·
            simp only [Act.put,zzq,zzr,zzs,i64_w,i32_w];rfl
           refine one_ (i:=15) (N:=some 25) (zzB 27 16777215) rfl rfl (one_of HT_.out (by kernel_rfl)) (by decide) (fun K hK=>?_);refine goes_ Try.func72 (by kernel_rfl) rfl #[.agg #[.bool ((Qa l0 (ji7)).f0),.bool ((Qa l0 (ji7)).f1),.int .i64 ((Qa l0 (ji7)).f2),.int .i64 ((Qa l0 (ji7)).f3),.int .i64 ((Qa l0 (ji7)).f4),.slice A327_5 ((Qa l0 (ji7)).f5).length c327_5]] (by rfl) rfl rfl (by (try simp only [map_toArray,map_cons,map_nil]);first|done|(simp only [hji7];rfl)|rfl|(simp only [length_drop,length_take];rfl)) ?_;with_reducible refine (Q8.calls ((Qa l0 (ji7)).f0) ((Qa l0 (ji7)).f1) ((Qa l0 (ji7)).f2) ((Qa l0 (ji7)).f3) ((Qa l0 (ji7)).f4) _ _ ((Qa l0 (ji7)).f5) t328 _ ?side1 ?side2 A10.out).mono ?_
           (case side1=>repeat (first|exact (Kd.C_below HR327_5.out HB.out)|(with_reducible refine Kd.C_alloc ?_ _)|(with_reducible refine Kd.C_drewN ?_ _)|(with_reducible refine Kd.C_drew ?_)))
           (case side2=>exact HC327_5.out);rintro e w15 ⟨rfl,hb⟩;refine ⟨_,rfl,?_⟩;have n0_:=zzm (zzp zzh1 hb);clear HB;have HB:=n0_;clear n0_
           (try clear hb)
           (try clear hb2)
           (try clear hk)
           (try clear hi);refine hK.out _ _ ⟨(zzx HB.out hw325_0),(zzx HB.out hw325_1),(zzx HB.out hw325_2),(zzx HB.out hw325_3),(zzx HB.out hw325_4),(zzx HB.out hw325_5),(zzx HB.out hw327_0),(zzx HB.out hw327_1),(zzx HB.out hw327_2),(zzx HB.out hw327_3),(zzx HB.out hw327_4),(zzx HB.out hw327_5),(zzx HB.out hw329_0),(zzx HB.out hw329_1),(zzx HB.out hw329_2),(zzx HB.out hw329_3),(zzx HB.out hw329_4),(zzx HB.out hw329_5),(zzx HB.out hw330_0),(zzx HB.out hw330_1),(zzx HB.out hw330_2),(zzx HB.out hw330_3),(zzx HB.out hw330_4),(zzx HB.out hw330_5)⟩ (fun hHeld=>?_);clear hK K;refine norm_ (a':=?_) ?_ ?_;rotate_left
           ·
            show Act.put _ (some 25) _ = _;simp only [Act.put,zzq,zzr,zzs,i64_w,i32_w];rfl
           refine pure_ (i:=24) (N:=some 34) (v:=?_) (a':=?_) (zzB 27 33554431) rfl rfl (zzA2 HT_.out) (fun _ _ _ h=>h) (Or.inl ⟨by rfl,?_⟩) ?_ ?_;rotate_left
           ·
            intro w';go_simp;with_reducible rfl
           rotate_left
           ·
            simp only [Act.put,zzq,zzr,zzs,i64_w,i32_w];rfl
           refine pure_ (i:=25) (N:=some 35) (v:=?_) (a':=?_) (zzB 27 67108863) rfl rfl (zzA2 HT_.out) (fun _ _ _ h=>h) (Or.inl ⟨by rfl,?_⟩) ?_ ?_;rotate_left
           ·
            intro w';go_simp;with_reducible rfl
           rotate_left
           ·
            simp only [Act.put,zzq,zzr,zzs,i64_w,i32_w];rfl
           refine pure_ (i:=26) (N:=some 36) (v:=?_) (a':=?_) (zzB 27 134217727) rfl rfl (zzA2 HT_.out) (fun _ _ _ h=>h) (Or.inl ⟨by rfl,?_⟩) ?_ ?_;rotate_left
           ·
            intro w';go_simp;with_reducible rfl
           rotate_left
           ·
            simp only [Act.put,zzq,zzr,zzs,i64_w,i32_w];rfl
           refine done_ (done_of HT_.out (by kernel_rfl)) ?_;try go_wp2
           go_ret;exact ⟨by first|rfl|(simp [errW_none,errW_some] <;> rfl)|(simp only [← hji7];first|rfl|(simp [errW_none,errW_some] <;> rfl))|(simp [*,errW_none,errW_some] <;> rfl),zzh1⟩
          ·
           rw [if_neg c12] at H;have c12b0:decide (((Qb ((Qa l0 x3_1).f5) 0).f0)≤t328)=false:=decide_eq_false c12;clear c12;have H':=zzm H;clear H;try go_wp2
           have n0_:=zzm (zzc HB.out);clear HB;have HB:=n0_;clear n0_;have p325 : 0≤(x3_1:Int):=zzt;have q325:x3_1 < (l0.length:Int):=zzt;obtain ⟨ad325,A325_5,c325_5,e325,hx325_0,hx325_1,hx325_2,hx325_3,hx325_4,hx325_5,hl325_5,hi325_5⟩:=Qw HR0.out x3_1 p325 q325;have hw325_5:=hx325_5;have hw325_4:=hx325_4;have hw325_3:=hx325_3;have hw325_2:=hx325_2;have hw325_1:=hx325_1;have hw325_0:=hx325_0;cases e325;replace hx325_0:=zzx HB.out hx325_0;replace hx325_1:=zzx HB.out hx325_1;replace hx325_2:=zzx HB.out hx325_2;replace hx325_3:=zzx HB.out hx325_3;replace hx325_4:=zzx HB.out hx325_4;replace hx325_5:=zzx HB.out hx325_5;have HR325_5:=zzm hi325_5;have HC325_5:=zzm hl325_5;clear hi325_5 hl325_5;replace p325:=eq_true p325;replace q325:=eq_true q325;have p327 : 0≤((ji7):Int):=zzt;have q327:(ji7) < (l0.length:Int):=zzt;obtain ⟨ad327,A327_5,c327_5,e327,hx327_0,hx327_1,hx327_2,hx327_3,hx327_4,hx327_5,hl327_5,hi327_5⟩:=Qw HR0.out (ji7) p327 q327;have hw327_5:=hx327_5;have hw327_4:=hx327_4;have hw327_3:=hx327_3;have hw327_2:=hx327_2;have hw327_1:=hx327_1;have hw327_0:=hx327_0;obtain rfl:ad325=ad327:=(by injection e327);replace hx327_0:=zzx HB.out hx327_0;replace hx327_1:=zzx HB.out hx327_1;replace hx327_2:=zzx HB.out hx327_2;replace hx327_3:=zzx HB.out hx327_3;replace hx327_4:=zzx HB.out hx327_4;replace hx327_5:=zzx HB.out hx327_5;have HR327_5:=zzm hi327_5;have HC327_5:=zzm hl327_5;clear hi327_5 hl327_5;replace p327:=eq_true p327;replace q327:=eq_true q327;have p329 : 0≤(x3_1:Int):=zzt;have q329:x3_1 < (l0.length:Int):=zzt;obtain ⟨ad329,A329_5,c329_5,e329,hx329_0,hx329_1,hx329_2,hx329_3,hx329_4,hx329_5,hl329_5,hi329_5⟩:=Qw HR0.out x3_1 p329 q329;have hw329_5:=hx329_5;have hw329_4:=hx329_4;have hw329_3:=hx329_3;have hw329_2:=hx329_2;have hw329_1:=hx329_1;have hw329_0:=hx329_0;obtain rfl:ad325=ad329:=(by injection e329);replace hx329_0:=zzx HB.out hx329_0;replace hx329_1:=zzx HB.out hx329_1;replace hx329_2:=zzx HB.out hx329_2;replace hx329_3:=zzx HB.out hx329_3;replace hx329_4:=zzx HB.out hx329_4;replace hx329_5:=zzx HB.out hx329_5;have HR329_5:=zzm hi329_5;have HC329_5:=zzm hl329_5;clear hi329_5 hl329_5;replace p329:=eq_true p329;replace q329:=eq_true q329;have p330 : 0≤(0:Int):=(by omega);have q330 : 0 < (((Qa l0 x3_1).f5).length:Int):=zzt;have eA_:A329_5=A325_5:=by have e_:=Option.some.inj (hw325_5.symm.trans hw329_5);injection e_ with e1_ _ e3_;exact e1_.symm
           have eC_:c329_5=c325_5:=by have e_:=Option.some.inj (hw325_5.symm.trans hw329_5);injection e_ with e1_ _ e3_;exact e3_.symm
           subst A329_5;subst c329_5;obtain ⟨ad330,A330_3,c330_3,A330_5,c330_5,e330,hx330_0,hx330_1,hx330_2,hx330_3,hx330_4,hx330_5,hl330_3,hi330_3,hl330_5,hi330_5⟩:=Qy HR329_5.out 0 p330 q330;have hw330_5:=hx330_5
           (try rw [show ((0:Int)).toNat=0 from rfl] at hw330_5)
           (try rw [show 0 * 6=0 from rfl] at hw330_5)
           (try rw [Addr.add_zero'] at hw330_5);have hw330_4:=hx330_4
           (try rw [show ((0:Int)).toNat=0 from rfl] at hw330_4)
           (try rw [show 0 * 6=0 from rfl] at hw330_4)
           (try rw [Addr.add_zero'] at hw330_4);have hw330_3:=hx330_3
           (try rw [show ((0:Int)).toNat=0 from rfl] at hw330_3)
           (try rw [show 0 * 6=0 from rfl] at hw330_3)
           (try rw [Addr.add_zero'] at hw330_3);have hw330_2:=hx330_2
           (try rw [show ((0:Int)).toNat=0 from rfl] at hw330_2)
           (try rw [show 0 * 6=0 from rfl] at hw330_2)
           (try rw [Addr.add_zero'] at hw330_2);have hw330_1:=hx330_1
           (try rw [show ((0:Int)).toNat=0 from rfl] at hw330_1)
           (try rw [show 0 * 6=0 from rfl] at hw330_1)
           (try rw [Addr.add_zero'] at hw330_1);have hw330_0:=hx330_0
           (try rw [show ((0:Int)).toNat=0 from rfl] at hw330_0)
           (try rw [show 0 * 6=0 from rfl] at hw330_0)
           (try rw [Addr.add_zero'] at hw330_0);cases e330;have qi330:(0 < ((Qa l0 x3_1).f5).length)=True:=eq_true (by omega)
           (try rw [show ((0:Int)).toNat=0 from rfl] at hx330_0)
           (try rw [show 0 * 6=0 from rfl] at hx330_0)
           (try rw [Addr.add_zero'] at hx330_0)
           (try rw [show ((0:Int)).toNat=0 from rfl] at hx330_1)
           (try rw [show 0 * 6=0 from rfl] at hx330_1)
           (try rw [Addr.add_zero'] at hx330_1)
           (try rw [show ((0:Int)).toNat=0 from rfl] at hx330_2)
           (try rw [show 0 * 6=0 from rfl] at hx330_2)
           (try rw [Addr.add_zero'] at hx330_2)
           (try rw [show ((0:Int)).toNat=0 from rfl] at hx330_3)
           (try rw [show 0 * 6=0 from rfl] at hx330_3)
           (try rw [Addr.add_zero'] at hx330_3)
           (try rw [show ((0:Int)).toNat=0 from rfl] at hx330_4)
           (try rw [show 0 * 6=0 from rfl] at hx330_4)
           (try rw [Addr.add_zero'] at hx330_4)
           (try rw [show ((0:Int)).toNat=0 from rfl] at hx330_5)
           (try rw [show 0 * 6=0 from rfl] at hx330_5)
           (try rw [Addr.add_zero'] at hx330_5);replace hx330_0:=zzx HB.out hx330_0;replace hx330_1:=zzx HB.out hx330_1;replace hx330_2:=zzx HB.out hx330_2;replace hx330_3:=zzx HB.out hx330_3;replace hx330_4:=zzx HB.out hx330_4;replace hx330_5:=zzx HB.out hx330_5;have HR330_3:=zzm hi330_3;have HC330_3:=zzm hl330_3;clear hi330_3 hl330_3;have HR330_5:=zzm hi330_5;have HC330_5:=zzm hl330_5;clear hi330_5 hl330_5;replace p330:=eq_true p330;replace q330:=eq_true q330;refine start_ (n:=27) (S:=fun w'=>w'.cell? (ad325.add ((x3_1).toNat * 6))=some (.bool ((Qa l0 x3_1).f0))∧w'.cell? ⟨(ad325.add ((x3_1).toNat * 6)).block,(ad325.add ((x3_1).toNat * 6)).off+1,none⟩=some (.bool ((Qa l0 x3_1).f1))∧w'.cell? ⟨(ad325.add ((x3_1).toNat * 6)).block,(ad325.add ((x3_1).toNat * 6)).off+2,none⟩=some (.int .i64 ((Qa l0 x3_1).f2))∧w'.cell? ⟨(ad325.add ((x3_1).toNat * 6)).block,(ad325.add ((x3_1).toNat * 6)).off+3,none⟩=some (.int .i64 ((Qa l0 x3_1).f3))∧w'.cell? ⟨(ad325.add ((x3_1).toNat * 6)).block,(ad325.add ((x3_1).toNat * 6)).off+4,none⟩=some (.int .i64 ((Qa l0 x3_1).f4))∧w'.cell? ⟨(ad325.add ((x3_1).toNat * 6)).block,(ad325.add ((x3_1).toNat * 6)).off+5,none⟩=some (.slice (some ad330) ((Qa l0 x3_1).f5).length c325_5)∧w'.cell? (ad325.add (((ji7)).toNat * 6))=some (.bool ((Qa l0 (ji7)).f0))∧w'.cell? ⟨(ad325.add (((ji7)).toNat * 6)).block,(ad325.add (((ji7)).toNat * 6)).off+1,none⟩=some (.bool ((Qa l0 (ji7)).f1))∧w'.cell? ⟨(ad325.add (((ji7)).toNat * 6)).block,(ad325.add (((ji7)).toNat * 6)).off+2,none⟩=some (.int .i64 ((Qa l0 (ji7)).f2))∧w'.cell? ⟨(ad325.add (((ji7)).toNat * 6)).block,(ad325.add (((ji7)).toNat * 6)).off+3,none⟩=some (.int .i64 ((Qa l0 (ji7)).f3))∧w'.cell? ⟨(ad325.add (((ji7)).toNat * 6)).block,(ad325.add (((ji7)).toNat * 6)).off+4,none⟩=some (.int .i64 ((Qa l0 (ji7)).f4))∧w'.cell? ⟨(ad325.add (((ji7)).toNat * 6)).block,(ad325.add (((ji7)).toNat * 6)).off+5,none⟩=some (.slice A327_5 ((Qa l0 (ji7)).f5).length c327_5)∧w'.cell? (ad325.add ((x3_1).toNat * 6))=some (.bool ((Qa l0 x3_1).f0))∧w'.cell? ⟨(ad325.add ((x3_1).toNat * 6)).block,(ad325.add ((x3_1).toNat * 6)).off+1,none⟩=some (.bool ((Qa l0 x3_1).f1))∧w'.cell? ⟨(ad325.add ((x3_1).toNat * 6)).block,(ad325.add ((x3_1).toNat * 6)).off+2,none⟩=some (.int .i64 ((Qa l0 x3_1).f2))∧w'.cell? ⟨(ad325.add ((x3_1).toNat * 6)).block,(ad325.add ((x3_1).toNat * 6)).off+3,none⟩=some (.int .i64 ((Qa l0 x3_1).f3))∧w'.cell? ⟨(ad325.add ((x3_1).toNat * 6)).block,(ad325.add ((x3_1).toNat * 6)).off+4,none⟩=some (.int .i64 ((Qa l0 x3_1).f4))∧w'.cell? ⟨(ad325.add ((x3_1).toNat * 6)).block,(ad325.add ((x3_1).toNat * 6)).off+5,none⟩=some (.slice (some ad330) ((Qa l0 x3_1).f5).length c325_5)∧w'.cell? ad330=some (.int .i64 ((Qb ((Qa l0 x3_1).f5) 0).f0))∧w'.cell? ⟨ad330.block,ad330.off+1,none⟩=some (.int .i64 ((Qb ((Qa l0 x3_1).f5) 0).f1))∧w'.cell? ⟨ad330.block,ad330.off+2,none⟩=some (.bool ((Qb ((Qa l0 x3_1).f5) 0).f2))∧w'.cell? ⟨ad330.block,ad330.off+3,none⟩=some (.slice A330_3 ((Qb ((Qa l0 x3_1).f5) 0).f3).length c330_3)∧w'.cell? ⟨ad330.block,ad330.off+4,none⟩=some (.bool ((Qb ((Qa l0 x3_1).f5) 0).f4))∧w'.cell? ⟨ad330.block,ad330.off+5,none⟩=some (.slice A330_5 ((Qb ((Qa l0 x3_1).f5) 0).f5).length c330_5)) (ds:=[]) (zzB 27 0) (by kernel_rfl) rfl rfl ⟨(zzx HB.out hw325_0),(zzx HB.out hw325_1),(zzx HB.out hw325_2),(zzx HB.out hw325_3),(zzx HB.out hw325_4),(zzx HB.out hw325_5),(zzx HB.out hw327_0),(zzx HB.out hw327_1),(zzx HB.out hw327_2),(zzx HB.out hw327_3),(zzx HB.out hw327_4),(zzx HB.out hw327_5),(zzx HB.out hw329_0),(zzx HB.out hw329_1),(zzx HB.out hw329_2),(zzx HB.out hw329_3),(zzx HB.out hw329_4),(zzx HB.out hw329_5),(zzx HB.out hw330_0),(zzx HB.out hw330_1),(zzx HB.out hw330_2),(zzx HB.out hw330_3),(zzx HB.out hw330_4),(zzx HB.out hw330_5)⟩ (fun hHeld=>?_);refine with_tabW Qo.tab4 Qo.bits4 (fun HT_ HW_=>?_);generalize wr.drew=w16 at HB HR325_5 HR327_5 HR329_5 HR330_3 HR330_5 hx325_0 hx325_1 hx325_2 hx325_3 hx325_4 hx325_5 hx327_0 hx327_1 hx327_2 hx327_3 hx327_4 hx327_5 hx329_0 hx329_1 hx329_2 hx329_3 hx329_4 hx329_5 hx330_0 hx330_1 hx330_2 hx330_3 hx330_4 hx330_5 hHeld ⊢;refine pure_ (i:=0) (N:=some 10) (v:=?_) (a':=?_) (zzB 27 1) rfl rfl (zzA2 HT_.out) (fun _ _ _ h=>h) (Or.inl ⟨by rfl,?_⟩) ?_ ?_;rotate_left
           ·
            intro w';go_simp;with_reducible rfl
           rotate_left
           ·
            simp only [Act.put,zzq,zzr,zzs,i64_w,i32_w];rfl
           refine pure_ (i:=1) (N:=some 11) (v:=?_) (a':=?_) (zzB 27 3) rfl rfl (zzA2 HT_.out) (fun _ _ _ h=>h) (Or.inl ⟨by rfl,?_⟩) ?_ ?_;rotate_left
           ·
            intro w';go_simp;with_reducible rfl
           rotate_left
           ·
            simp only [Act.put,zzq,zzr,zzs,i64_w,i32_w];rfl
           refine pure_ (i:=2) (N:=some 12) (v:=?_) (a':=?_) (zzB 27 7) rfl rfl (zzA2 HT_.out) (fun _ _ _ h=>h) (Or.inl ⟨by rfl,?_⟩) ?_ ?_;rotate_left
           ·
            intro w';go_simp;with_reducible rfl
           rotate_left
           ·
            simp only [Act.put,zzq,zzr,zzs,i64_w,i32_w];rfl
           refine take_ (i:=3) (N:=some 13) (v:=?_) (a':=?_) (zzB 27 15) rfl rfl (take_ofW HT_.out HW_.out (by kernel_rfl)) (fun _ _ _ h=>h) (Or.inl ⟨by rfl,?_⟩) hHeld ?_ ?_;rotate_left
           ·
            rintro w' ⟨s0,s1,s2,s3,s4,s5,s6,s7,s8,s9,s10,s11,s12,s13,s14,s15,s16,s17,s18,s19,s20,s21,s22,s23⟩;go_simp;with_reducible rfl
           rotate_left
           ·
            simp only [Act.put,zzq,zzr,zzs,i64_w,i32_w];rfl
           refine one_ (i:=4) (N:=some 14) (zzB 27 31) rfl rfl (one_of HT_.out (by kernel_rfl)) (by decide) (fun K hK=>?_);refine goes_ Try.func66 (by kernel_rfl) rfl #[.agg #[.bool ((Qa l0 x3_1).f0),.bool ((Qa l0 x3_1).f1),.int .i64 ((Qa l0 x3_1).f2),.int .i64 ((Qa l0 x3_1).f3),.int .i64 ((Qa l0 x3_1).f4),.slice (some ad330) ((Qa l0 x3_1).f5).length c325_5]] (by rfl) rfl rfl zzM2 ?_;with_reducible refine (Qi.calls k1 ((Qa l0 x3_1).f0) ((Qa l0 x3_1).f1) ((Qa l0 x3_1).f2) ((Qa l0 x3_1).f3) ((Qa l0 x3_1).f4) _ _ ((Qa l0 x3_1).f5) true _ ?side1 ?side2 A4.out).mono ?_
           (case side1=>repeat (first|exact (Kd.C_below HR325_5.out HB.out)|(with_reducible refine Kd.C_alloc ?_ _)|(with_reducible refine Kd.C_drewN ?_ _)|(with_reducible refine Kd.C_drew ?_)))
           (case side2=>exact HC325_5.out);rintro e w17 ⟨rfl,hb⟩;refine ⟨_,rfl,?_⟩;have n0_:=zzm (zzp zzh1 hb);clear HB;have HB:=n0_;clear n0_
           (try clear hb)
           (try clear hb2)
           (try clear hk)
           (try clear hi);refine hK.out _ _ ⟨(zzx HB.out hw325_0),(zzx HB.out hw325_1),(zzx HB.out hw325_2),(zzx HB.out hw325_3),(zzx HB.out hw325_4),(zzx HB.out hw325_5),(zzx HB.out hw327_0),(zzx HB.out hw327_1),(zzx HB.out hw327_2),(zzx HB.out hw327_3),(zzx HB.out hw327_4),(zzx HB.out hw327_5),(zzx HB.out hw329_0),(zzx HB.out hw329_1),(zzx HB.out hw329_2),(zzx HB.out hw329_3),(zzx HB.out hw329_4),(zzx HB.out hw329_5),(zzx HB.out hw330_0),(zzx HB.out hw330_1),(zzx HB.out hw330_2),(zzx HB.out hw330_3),(zzx HB.out hw330_4),(zzx HB.out hw330_5)⟩ (fun hHeld=>?_);clear hK K;refine norm_ (a':=?_) ?_ ?_;rotate_left
           ·
            show Act.put _ (some 14) _ = _;simp only [Act.put,zzq,zzr,zzs,i64_w,i32_w];rfl
           refine pure_ (i:=5) (N:=some 15) (v:=?_) (a':=?_) (zzB 27 63) rfl rfl (zzA2 HT_.out) (fun _ _ _ h=>h) (Or.inl ⟨by rfl,?_⟩) ?_ ?_;rotate_left
           ·
            intro w';go_simp;with_reducible rfl
           rotate_left
           ·
            simp only [Act.put,zzq,zzr,zzs,i64_w,i32_w];rfl
           refine pure_ (i:=6) (N:=some 16) (v:=?_) (a':=?_) (zzB 27 127) rfl rfl (zzA2 HT_.out) (fun _ _ _ h=>h) (Or.inl ⟨by rfl,?_⟩) ?_ ?_;rotate_left
           ·
            intro w';go_simp;with_reducible rfl
           rotate_left
           ·
            simp only [Act.put,zzq,zzr,zzs,i64_w,i32_w];rfl
           refine pure_ (i:=7) (N:=some 17) (v:=?_) (a':=?_) (zzB 27 255) rfl rfl (zzA2 HT_.out) (fun _ _ _ h=>h) (Or.inl ⟨by rfl,?_⟩) ?_ ?_;rotate_left
           ·
            intro w';go_simp;with_reducible rfl
           rotate_left
           ·
            simp only [Act.put,zzq,zzr,zzs,i64_w,i32_w];rfl
           refine pure_ (i:=8) (N:=some 18) (v:=?_) (a':=?_) (zzB 27 511) rfl rfl (zzA2 HT_.out) (fun _ _ _ h=>h) (Or.inl ⟨by rfl,?_⟩) ?_ ?_;rotate_left
           ·
            intro w';go_simp;with_reducible rfl
           rotate_left
           ·
            simp only [Act.put,zzq,zzr,zzs,i64_w,i32_w];rfl
           refine pure_ (i:=9) (N:=some 19) (v:=?_) (a':=?_) (zzB 27 1023) rfl rfl (zzA2 HT_.out) (fun _ _ _ h=>h) (Or.inl ⟨by rfl,?_⟩) ?_ ?_;rotate_left
           ·
            intro w';go_simp;with_reducible rfl
           rotate_left
           ·
            simp only [Act.put,zzq,zzr,zzs,i64_w,i32_w];rfl
           refine pure_ (i:=10) (N:=some 20) (v:=?_) (a':=?_) (zzB 27 2047) rfl rfl (zzA2 HT_.out) (fun _ _ _ h=>h) (Or.inl ⟨by rfl,?_⟩) ?_ ?_;rotate_left
           ·
            intro w';go_simp;with_reducible rfl
           rotate_left
           ·
            simp only [Act.put,zzq,zzr,zzs,i64_w,i32_w];rfl
           refine pure_ (i:=11) (N:=some 21) (v:=?_) (a':=?_) (zzB 27 4095) rfl rfl (zzA2 HT_.out) (fun _ _ _ h=>h) (Or.inl ⟨by rfl,?_⟩) ?_ ?_;rotate_left
           ·
            intro w';go_simp;with_reducible rfl
           rotate_left
           ·
            simp only [Act.put,zzq,zzr,zzs,i64_w,i32_w];rfl
           refine pure_ (i:=12) (N:=some 22) (v:=?_) (a':=?_) (zzB 27 8191) rfl rfl (zzA2 HT_.out) (fun _ _ _ h=>h) (Or.inl ⟨by rfl,?_⟩) ?_ ?_;rotate_left
           ·
            intro w';go_simp;with_reducible rfl
           rotate_left
           ·
            simp only [Act.put,zzq,zzr,zzs,i64_w,i32_w];rfl
           refine pure_ (i:=13) (N:=some 23) (v:=?_) (a':=?_) (zzB 27 16383) rfl rfl (zzA2 HT_.out) (fun _ _ _ h=>h) (Or.inl ⟨by rfl,?_⟩) ?_ ?_;rotate_left
           ·
            intro w';go_simp;with_reducible rfl
           rotate_left
           ·
            simp only [Act.put,zzq,zzr,zzs,i64_w,i32_w];rfl
           refine pure_ (i:=16) (N:=some 26) (v:=?_) (a':=?_) (zzB 27 81919) rfl rfl (zzA2 HT_.out) (fun _ _ _ h=>h) (Or.inl ⟨by rfl,?_⟩) ?_ ?_;rotate_left
           ·
            intro w';go_simp;with_reducible rfl
           rotate_left
           ·
            simp only [Act.put,zzq,zzr,zzs,i64_w,i32_w];rfl
           refine pure_ (i:=17) (N:=some 27) (v:=?_) (a':=?_) (zzB 27 212991) rfl rfl (zzA2 HT_.out) (fun _ _ _ h=>h) (Or.inl ⟨by rfl,?_⟩) ?_ ?_;rotate_left
           ·
            intro w';go_simp;with_reducible rfl
           rotate_left
           ·
            simp only [Act.put,zzq,zzr,zzs,i64_w,i32_w];rfl
           refine pure_ (i:=18) (N:=some 28) (v:=?_) (a':=?_) (zzB 27 475135) rfl rfl (zzA2 HT_.out) (fun _ _ _ h=>h) (Or.inl ⟨by rfl,?_⟩) ?_ ?_;rotate_left
           ·
            intro w';go_simp;with_reducible rfl
           rotate_left
           ·
            simp only [Act.put,zzq,zzr,zzs,i64_w,i32_w];rfl
           refine pure_ (i:=19) (N:=some 29) (v:=?_) (a':=?_) (zzB 27 999423) rfl rfl (zzA2 HT_.out) (fun _ _ _ h=>h) (Or.inl ⟨by rfl,?_⟩) ?_ ?_;rotate_left
           ·
            intro w';go_simp;with_reducible rfl
           rotate_left
           ·
            simp only [Act.put,zzq,zzr,zzs,i64_w,i32_w];rfl
           refine take_ (i:=14) (N:=some 24) (v:=?_) (a':=?_) (zzB 27 1015807) rfl rfl (take_ofW HT_.out HW_.out (by kernel_rfl)) (fun _ _ _ h=>h) (Or.inl ⟨by rfl,?_⟩) hHeld ?_ ?_;rotate_left
           ·
            rintro w' ⟨s0,s1,s2,s3,s4,s5,s6,s7,s8,s9,s10,s11,s12,s13,s14,s15,s16,s17,s18,s19,s20,s21,s22,s23⟩;go_simp;with_reducible rfl
           rotate_left
           ·
            simp only [Act.put,zzq,zzr,zzs,i64_w,i32_w];rfl
           refine take_ (i:=20) (N:=some 30) (v:=?_) (a':=?_) (zzB 27 2064383) rfl rfl (take_ofW HT_.out HW_.out (by kernel_rfl)) (fun _ _ _ h=>h) (Or.inl ⟨by rfl,?_⟩) hHeld ?_ ?_;rotate_left
           ·
            rintro w' ⟨s0,s1,s2,s3,s4,s5,s6,s7,s8,s9,s10,s11,s12,s13,s14,s15,s16,s17,s18,s19,s20,s21,s22,s23⟩;go_simp;with_reducible rfl
           rotate_left
           ·
            simp only [Act.put,zzq,zzr,zzs,i64_w,i32_w];rfl
           refine pure_ (i:=21) (N:=some 31) (v:=?_) (a':=?_) (zzB 27 4161535) rfl rfl (zzA2 HT_.out) (fun _ _ _ h=>h) (Or.inl ⟨by rfl,?_⟩) ?_ ?_;rotate_left
           ·
            intro w';go_simp;with_reducible rfl
           rotate_left
           ·
            simp only [Act.put,zzq,zzr,zzs,i64_w,i32_w];rfl
           refine pure_ (i:=22) (N:=some 32) (v:=?_) (a':=?_) (zzB 27 8355839) rfl rfl (zzA2 HT_.out) (fun _ _ _ h=>h) (Or.inl ⟨by rfl,?_⟩) ?_ ?_;rotate_left
           ·
            intro w';go_simp;with_reducible rfl
           rotate_left
           ·
            simp only [Act.put,zzq,zzr,zzs,i64_w,i32_w];rfl
           refine take_ (i:=23) (N:=some 33) (v:=?_) (a':=?_) (zzB 27 16744447) rfl rfl (take_ofW HT_.out HW_.out (by kernel_rfl)) (fun _ _ _ h=>h) (Or.inl ⟨by rfl,?_⟩) hHeld ?_ ?_;rotate_left
           ·
            rintro w' ⟨s0,s1,s2,s3,s4,s5,s6,s7,s8,s9,s10,s11,s12,s13,s14,s15,s16,s17,s18,s19,s20,s21,s22,s23⟩;go_simp;with_reducible rfl
           rotate_left
           ·
            simp only [Act.put,zzq,zzr,zzs,i64_w,i32_w];rfl
           refine one_ (i:=15) (N:=some 25) (zzB 27 16777215) rfl rfl (one_of HT_.out (by kernel_rfl)) (by decide) (fun K hK=>?_);refine goes_ Try.func72 (by kernel_rfl) rfl #[.agg #[.bool ((Qa l0 (ji7)).f0),.bool ((Qa l0 (ji7)).f1),.int .i64 ((Qa l0 (ji7)).f2),.int .i64 ((Qa l0 (ji7)).f3),.int .i64 ((Qa l0 (ji7)).f4),.slice A327_5 ((Qa l0 (ji7)).f5).length c327_5]] (by rfl) rfl rfl (by (try simp only [map_toArray,map_cons,map_nil]);first|done|(simp only [hji7];rfl)|rfl|(simp only [length_drop,length_take];rfl)) ?_;with_reducible refine (Q8.calls ((Qa l0 (ji7)).f0) ((Qa l0 (ji7)).f1) ((Qa l0 (ji7)).f2) ((Qa l0 (ji7)).f3) ((Qa l0 (ji7)).f4) _ _ ((Qa l0 (ji7)).f5) t328 _ ?side1 ?side2 A10.out).mono ?_
           (case side1=>repeat (first|exact (Kd.C_below HR327_5.out HB.out)|(with_reducible refine Kd.C_alloc ?_ _)|(with_reducible refine Kd.C_drewN ?_ _)|(with_reducible refine Kd.C_drew ?_)))
           (case side2=>exact HC327_5.out);rintro e w18 ⟨rfl,hb⟩;refine ⟨_,rfl,?_⟩;have n0_:=zzm (zzp zzh1 hb);clear HB;have HB:=n0_;clear n0_
           (try clear hb)
           (try clear hb2)
           (try clear hk)
           (try clear hi);refine hK.out _ _ ⟨(zzx HB.out hw325_0),(zzx HB.out hw325_1),(zzx HB.out hw325_2),(zzx HB.out hw325_3),(zzx HB.out hw325_4),(zzx HB.out hw325_5),(zzx HB.out hw327_0),(zzx HB.out hw327_1),(zzx HB.out hw327_2),(zzx HB.out hw327_3),(zzx HB.out hw327_4),(zzx HB.out hw327_5),(zzx HB.out hw329_0),(zzx HB.out hw329_1),(zzx HB.out hw329_2),(zzx HB.out hw329_3),(zzx HB.out hw329_4),(zzx HB.out hw329_5),(zzx HB.out hw330_0),(zzx HB.out hw330_1),(zzx HB.out hw330_2),(zzx HB.out hw330_3),(zzx HB.out hw330_4),(zzx HB.out hw330_5)⟩ (fun hHeld=>?_);clear hK K;refine norm_ (a':=?_) ?_ ?_;rotate_left
           ·
            show Act.put _ (some 25) _ = _;simp only [Act.put,zzq,zzr,zzs,i64_w,i32_w];rfl
           refine pure_ (i:=24) (N:=some 34) (v:=?_) (a':=?_) (zzB 27 33554431) rfl rfl (zzA2 HT_.out) (fun _ _ _ h=>h) (Or.inl ⟨by rfl,?_⟩) ?_ ?_;rotate_left
           ·
            intro w';go_simp;with_reducible rfl
           rotate_left
           ·
            simp only [Act.put,zzq,zzr,zzs,i64_w,i32_w];rfl
           refine pure_ (i:=25) (N:=some 35) (v:=?_) (a':=?_) (zzB 27 67108863) rfl rfl (zzA2 HT_.out) (fun _ _ _ h=>h) (Or.inl ⟨by rfl,?_⟩) ?_ ?_;rotate_left
           ·
            intro w';go_simp;with_reducible rfl
           rotate_left
           ·
            simp only [Act.put,zzq,zzr,zzs,i64_w,i32_w];rfl
           refine pure_ (i:=26) (N:=some 36) (v:=?_) (a':=?_) (zzB 27 134217727) rfl rfl (zzA2 HT_.out) (fun _ _ _ h=>h) (Or.inl ⟨by rfl,?_⟩) ?_ ?_;rotate_left
           ·
            intro w';go_simp;with_reducible rfl
           rotate_left
           ·
            simp only [Act.put,zzq,zzr,zzs,i64_w,i32_w];rfl
           refine done_ (done_of HT_.out (by kernel_rfl)) ?_;try go_wp2
           go_roundg k1
           case measure=>have:=HK1.out;omega
           case rel=>exact ⟨(wrap64 (x3_1+1)),(by first|rfl|(simp;done)|(simp [*];done)),H',⟨by have:=HK1.out;omega⟩,⟨zzh1⟩⟩
         ·
          rw [if_neg c11] at H;exact absurd H (by simp)
        ·
         rw [if_neg c9] at H;exact absurd H (by simp)
       ·
        rw [if_neg c8] at H;exact absurd H (by simp)
      ·
       rw [if_neg c6] at H;have c6b0:decide (0 < x3_1)=false:=decide_eq_false c6;clear c6;have H':=zzm H;clear H;try go_wp2
       have n0_:=zzm (zzc HB.out);clear HB;have HB:=n0_;clear n0_;have p325 : 0≤(x3_1:Int):=zzt;have q325:x3_1 < (l0.length:Int):=zzt;obtain ⟨ad325,A325_5,c325_5,e325,hx325_0,hx325_1,hx325_2,hx325_3,hx325_4,hx325_5,hl325_5,hi325_5⟩:=Qw HR0.out x3_1 p325 q325;have hw325_5:=hx325_5;have hw325_4:=hx325_4;have hw325_3:=hx325_3;have hw325_2:=hx325_2;have hw325_1:=hx325_1;have hw325_0:=hx325_0;cases e325;replace hx325_0:=zzx HB.out hx325_0;replace hx325_1:=zzx HB.out hx325_1;replace hx325_2:=zzx HB.out hx325_2;replace hx325_3:=zzx HB.out hx325_3;replace hx325_4:=zzx HB.out hx325_4;replace hx325_5:=zzx HB.out hx325_5;have HR325_5:=zzm hi325_5;have HC325_5:=zzm hl325_5;clear hi325_5 hl325_5;replace p325:=eq_true p325;replace q325:=eq_true q325;refine start_ (n:=27) (S:=fun w'=>w'.cell? (ad325.add ((x3_1).toNat * 6))=some (.bool ((Qa l0 x3_1).f0))∧w'.cell? ⟨(ad325.add ((x3_1).toNat * 6)).block,(ad325.add ((x3_1).toNat * 6)).off+1,none⟩=some (.bool ((Qa l0 x3_1).f1))∧w'.cell? ⟨(ad325.add ((x3_1).toNat * 6)).block,(ad325.add ((x3_1).toNat * 6)).off+2,none⟩=some (.int .i64 ((Qa l0 x3_1).f2))∧w'.cell? ⟨(ad325.add ((x3_1).toNat * 6)).block,(ad325.add ((x3_1).toNat * 6)).off+3,none⟩=some (.int .i64 ((Qa l0 x3_1).f3))∧w'.cell? ⟨(ad325.add ((x3_1).toNat * 6)).block,(ad325.add ((x3_1).toNat * 6)).off+4,none⟩=some (.int .i64 ((Qa l0 x3_1).f4))∧w'.cell? ⟨(ad325.add ((x3_1).toNat * 6)).block,(ad325.add ((x3_1).toNat * 6)).off+5,none⟩=some (.slice A325_5 ((Qa l0 x3_1).f5).length c325_5)) (ds:=[]) (zzB 27 0) (by kernel_rfl) rfl rfl ⟨(zzx HB.out hw325_0),(zzx HB.out hw325_1),(zzx HB.out hw325_2),(zzx HB.out hw325_3),(zzx HB.out hw325_4),(zzx HB.out hw325_5)⟩ (fun hHeld=>?_);refine with_tabW Qo.tab4 Qo.bits4 (fun HT_ HW_=>?_);generalize wr.drew=w19 at HB HR325_5 hx325_0 hx325_1 hx325_2 hx325_3 hx325_4 hx325_5 hHeld ⊢;refine pure_ (i:=0) (N:=some 10) (v:=?_) (a':=?_) (zzB 27 1) rfl rfl (zzA2 HT_.out) (fun _ _ _ h=>h) (Or.inl ⟨by rfl,?_⟩) ?_ ?_;rotate_left
       ·
        intro w';go_simp;with_reducible rfl
       rotate_left
       ·
        simp only [Act.put,zzq,zzr,zzs,i64_w,i32_w];rfl
       refine pure_ (i:=1) (N:=some 11) (v:=?_) (a':=?_) (zzB 27 3) rfl rfl (zzA2 HT_.out) (fun _ _ _ h=>h) (Or.inl ⟨by rfl,?_⟩) ?_ ?_;rotate_left
       ·
        intro w';go_simp;with_reducible rfl
       rotate_left
       ·
        simp only [Act.put,zzq,zzr,zzs,i64_w,i32_w];rfl
       refine pure_ (i:=2) (N:=some 12) (v:=?_) (a':=?_) (zzB 27 7) rfl rfl (zzA2 HT_.out) (fun _ _ _ h=>h) (Or.inl ⟨by rfl,?_⟩) ?_ ?_;rotate_left
       ·
        intro w';go_simp;with_reducible rfl
       rotate_left
       ·
        simp only [Act.put,zzq,zzr,zzs,i64_w,i32_w];rfl
       refine take_ (i:=3) (N:=some 13) (v:=?_) (a':=?_) (zzB 27 15) rfl rfl (take_ofW HT_.out HW_.out (by kernel_rfl)) (fun _ _ _ h=>h) (Or.inl ⟨by rfl,?_⟩) hHeld ?_ ?_;rotate_left
       ·
        rintro w' ⟨s0,s1,s2,s3,s4,s5⟩;go_simp;with_reducible rfl
       rotate_left
       ·
        simp only [Act.put,zzq,zzr,zzs,i64_w,i32_w];rfl
       refine one_ (i:=4) (N:=some 14) (zzB 27 31) rfl rfl (one_of HT_.out (by kernel_rfl)) (by decide) (fun K hK=>?_);refine goes_ Try.func66 (by kernel_rfl) rfl #[.agg #[.bool ((Qa l0 x3_1).f0),.bool ((Qa l0 x3_1).f1),.int .i64 ((Qa l0 x3_1).f2),.int .i64 ((Qa l0 x3_1).f3),.int .i64 ((Qa l0 x3_1).f4),.slice A325_5 ((Qa l0 x3_1).f5).length c325_5]] (by rfl) rfl rfl zzM2 ?_;with_reducible refine (Qi.calls k1 ((Qa l0 x3_1).f0) ((Qa l0 x3_1).f1) ((Qa l0 x3_1).f2) ((Qa l0 x3_1).f3) ((Qa l0 x3_1).f4) _ _ ((Qa l0 x3_1).f5) true _ ?side1 ?side2 A4.out).mono ?_
       (case side1=>repeat (first|exact (Kd.C_below HR325_5.out HB.out)|(with_reducible refine Kd.C_alloc ?_ _)|(with_reducible refine Kd.C_drewN ?_ _)|(with_reducible refine Kd.C_drew ?_)))
       (case side2=>exact HC325_5.out);rintro e w20 ⟨rfl,hb⟩;refine ⟨_,rfl,?_⟩;have n0_:=zzm (zzp zzh1 hb);clear HB;have HB:=n0_;clear n0_
       (try clear hb)
       (try clear hb2)
       (try clear hk)
       (try clear hi);refine hK.out _ _ ⟨(zzx HB.out hw325_0),(zzx HB.out hw325_1),(zzx HB.out hw325_2),(zzx HB.out hw325_3),(zzx HB.out hw325_4),(zzx HB.out hw325_5)⟩ (fun hHeld=>?_);clear hK K;refine norm_ (a':=?_) ?_ ?_;rotate_left
       ·
        show Act.put _ (some 14) _ = _;simp only [Act.put,zzq,zzr,zzs,i64_w,i32_w];rfl
       refine pure_ (i:=5) (N:=some 15) (v:=?_) (a':=?_) (zzB 27 63) rfl rfl (zzA2 HT_.out) (fun _ _ _ h=>h) (Or.inl ⟨by rfl,?_⟩) ?_ ?_;rotate_left
       ·
        intro w';go_simp;with_reducible rfl
       rotate_left
       ·
        simp only [Act.put,zzq,zzr,zzs,i64_w,i32_w];rfl
       refine pure_ (i:=6) (N:=some 16) (v:=?_) (a':=?_) (zzB 27 127) rfl rfl (zzA2 HT_.out) (fun _ _ _ h=>h) (Or.inl ⟨by rfl,?_⟩) ?_ ?_;rotate_left
       ·
        intro w';go_simp;with_reducible rfl
       rotate_left
       ·
        simp only [Act.put,zzq,zzr,zzs,i64_w,i32_w];rfl
       refine pure_ (i:=7) (N:=some 17) (v:=?_) (a':=?_) (zzB 27 255) rfl rfl (zzA2 HT_.out) (fun _ _ _ h=>h) (Or.inl ⟨by rfl,?_⟩) ?_ ?_;rotate_left
       ·
        intro w';go_simp;with_reducible rfl
       rotate_left
       ·
        simp only [Act.put,zzq,zzr,zzs,i64_w,i32_w];rfl
       refine pure_ (i:=8) (N:=some 18) (v:=?_) (a':=?_) (zzB 27 511) rfl rfl (zzA2 HT_.out) (fun _ _ _ h=>h) (Or.inl ⟨by rfl,?_⟩) ?_ ?_;rotate_left
       ·
        intro w';go_simp;with_reducible rfl
       rotate_left
       ·
        simp only [Act.put,zzq,zzr,zzs,i64_w,i32_w];rfl
       refine pure_ (i:=9) (N:=some 19) (v:=?_) (a':=?_) (zzB 27 1023) rfl rfl (zzA2 HT_.out) (fun _ _ _ h=>h) (Or.inl ⟨by rfl,?_⟩) ?_ ?_;rotate_left
       ·
        intro w';go_simp;with_reducible rfl
       rotate_left
       ·
        simp only [Act.put,zzq,zzr,zzs,i64_w,i32_w];rfl
       refine pure_ (i:=10) (N:=some 20) (v:=undef) (a':=?_) (zzB 27 2047) rfl rfl (zzA2 HT_.out) (fun _ _ _ h=>h) (Or.inr ⟨by rfl,rfl⟩) ?_ ?_;rotate_left
       ·
        simp only [Act.put,zzq,zzr,zzs,i64_w,i32_w];rfl
       refine pure_ (i:=11) (N:=some 21) (v:=undef) (a':=?_) (zzB 27 4095) rfl rfl (zzA2 HT_.out) (fun _ _ _ h=>h) (Or.inr ⟨by rfl,rfl⟩) ?_ ?_;rotate_left
       ·
        simp only [Act.put,zzq,zzr,zzs,i64_w,i32_w];rfl
       refine pure_ (i:=12) (N:=some 22) (v:=undef) (a':=?_) (zzB 27 8191) rfl rfl (zzA2 HT_.out) (fun _ _ _ h=>h) (Or.inr ⟨by rfl,rfl⟩) ?_ ?_;rotate_left
       ·
        simp only [Act.put,zzq,zzr,zzs,i64_w,i32_w];rfl
       refine pure_ (i:=13) (N:=some 23) (v:=undef) (a':=?_) (zzB 27 16383) rfl rfl (zzA2 HT_.out) (fun _ _ _ h=>h) (Or.inr ⟨by rfl,rfl⟩) ?_ ?_;rotate_left
       ·
        simp only [Act.put,zzq,zzr,zzs,i64_w,i32_w];rfl
       refine pure_ (i:=14) (N:=some 24) (v:=undef) (a':=?_) (zzB 27 32767) rfl rfl (zzA2 HT_.out) (fun _ _ _ h=>h) (Or.inr ⟨by rfl,rfl⟩) ?_ ?_;rotate_left
       ·
        simp only [Act.put,zzq,zzr,zzs,i64_w,i32_w];rfl
       refine pure_ (i:=15) (N:=some 25) (v:=undef) (a':=?_) (zzB 27 65535) rfl rfl (zzA2 HT_.out) (fun _ _ _ h=>h) (Or.inr ⟨by rfl,rfl⟩) ?_ ?_;rotate_left
       ·
        simp only [Act.put,zzq,zzr,zzs,i64_w,i32_w];rfl
       refine pure_ (i:=16) (N:=some 26) (v:=undef) (a':=?_) (zzB 27 131071) rfl rfl (zzA2 HT_.out) (fun _ _ _ h=>h) (Or.inr ⟨by rfl,rfl⟩) ?_ ?_;rotate_left
       ·
        simp only [Act.put,zzq,zzr,zzs,i64_w,i32_w];rfl
       refine pure_ (i:=17) (N:=some 27) (v:=undef) (a':=?_) (zzB 27 262143) rfl rfl (zzA2 HT_.out) (fun _ _ _ h=>h) (Or.inr ⟨by rfl,rfl⟩) ?_ ?_;rotate_left
       ·
        simp only [Act.put,zzq,zzr,zzs,i64_w,i32_w];rfl
       refine pure_ (i:=18) (N:=some 28) (v:=undef) (a':=?_) (zzB 27 524287) rfl rfl (zzA2 HT_.out) (fun _ _ _ h=>h) (Or.inr ⟨by rfl,rfl⟩) ?_ ?_;rotate_left
       ·
        simp only [Act.put,zzq,zzr,zzs,i64_w,i32_w];rfl
       refine pure_ (i:=19) (N:=some 29) (v:=undef) (a':=?_) (zzB 27 1048575) rfl rfl (zzA2 HT_.out) (fun _ _ _ h=>h) (Or.inr ⟨by rfl,rfl⟩) ?_ ?_;rotate_left
       ·
        simp only [Act.put,zzq,zzr,zzs,i64_w,i32_w];rfl
       refine pure_ (i:=20) (N:=some 30) (v:=undef) (a':=?_) (zzB 27 2097151) rfl rfl (zzA2 HT_.out) (fun _ _ _ h=>h) (Or.inr ⟨by rfl,rfl⟩) ?_ ?_;rotate_left
       ·
        simp only [Act.put,zzq,zzr,zzs,i64_w,i32_w];rfl
       refine pure_ (i:=21) (N:=some 31) (v:=undef) (a':=?_) (zzB 27 4194303) rfl rfl (zzA2 HT_.out) (fun _ _ _ h=>h) (Or.inr ⟨by rfl,rfl⟩) ?_ ?_;rotate_left
       ·
        simp only [Act.put,zzq,zzr,zzs,i64_w,i32_w];rfl
       refine pure_ (i:=22) (N:=some 32) (v:=undef) (a':=?_) (zzB 27 8388607) rfl rfl (zzA2 HT_.out) (fun _ _ _ h=>h) (Or.inr ⟨by rfl,rfl⟩) ?_ ?_;rotate_left
       ·
        simp only [Act.put,zzq,zzr,zzs,i64_w,i32_w];rfl
       refine pure_ (i:=23) (N:=some 33) (v:=undef) (a':=?_) (zzB 27 16777215) rfl rfl (zzA2 HT_.out) (fun _ _ _ h=>h) (Or.inr ⟨by rfl,rfl⟩) ?_ ?_;rotate_left
       ·
        simp only [Act.put,zzq,zzr,zzs,i64_w,i32_w];rfl
       refine pure_ (i:=24) (N:=some 34) (v:=undef) (a':=?_) (zzB 27 33554431) rfl rfl (zzA2 HT_.out) (fun _ _ _ h=>h) (Or.inr ⟨by rfl,rfl⟩) ?_ ?_;rotate_left
       ·
        simp only [Act.put,zzq,zzr,zzs,i64_w,i32_w];rfl
       refine pure_ (i:=25) (N:=some 35) (v:=?_) (a':=?_) (zzB 27 67108863) rfl rfl (zzA2 HT_.out) (fun _ _ _ h=>h) (Or.inl ⟨by rfl,?_⟩) ?_ ?_;rotate_left
       ·
        intro w';go_simp;with_reducible rfl
       rotate_left
       ·
        simp only [Act.put,zzq,zzr,zzs,i64_w,i32_w];rfl
       refine pure_ (i:=26) (N:=some 36) (v:=?_) (a':=?_) (zzB 27 134217727) rfl rfl (zzA2 HT_.out) (fun _ _ _ h=>h) (Or.inl ⟨by rfl,?_⟩) ?_ ?_;rotate_left
       ·
        intro w';go_simp;with_reducible rfl
       rotate_left
       ·
        simp only [Act.put,zzq,zzr,zzs,i64_w,i32_w];rfl
       refine done_ (done_of HT_.out (by kernel_rfl)) ?_;try go_wp2
       go_roundg k1
       case measure=>have:=HK1.out;omega
       case rel=>exact ⟨(wrap64 (x3_1+1)),(by first|rfl|(simp;done)|(simp [*];done)),H',⟨by have:=HK1.out;omega⟩,⟨zzh1⟩⟩
     ·
      replace c5:=Bool.eq_false_iff.mpr c5;subst c5;have H1:(some false)=some r:=by rw [if_neg (show ¬ (false=true) by decide)] at H;exact H
      clear H;have H:=H1;clear H1;obtain rfl:=Option.some.inj H;try go_wp2
      have n0_:=zzm (zzc HB.out);clear HB;have HB:=n0_;clear n0_;have p325 : 0≤(x3_1:Int):=zzt;have q325:x3_1 < (l0.length:Int):=zzt;obtain ⟨ad325,A325_5,c325_5,e325,hx325_0,hx325_1,hx325_2,hx325_3,hx325_4,hx325_5,hl325_5,hi325_5⟩:=Qw HR0.out x3_1 p325 q325;have hw325_5:=hx325_5;have hw325_4:=hx325_4;have hw325_3:=hx325_3;have hw325_2:=hx325_2;have hw325_1:=hx325_1;have hw325_0:=hx325_0;cases e325;replace hx325_0:=zzx HB.out hx325_0;replace hx325_1:=zzx HB.out hx325_1;replace hx325_2:=zzx HB.out hx325_2;replace hx325_3:=zzx HB.out hx325_3;replace hx325_4:=zzx HB.out hx325_4;replace hx325_5:=zzx HB.out hx325_5;have HR325_5:=zzm hi325_5;have HC325_5:=zzm hl325_5;clear hi325_5 hl325_5;replace p325:=eq_true p325;replace q325:=eq_true q325;refine start_ (n:=27) (S:=fun w'=>w'.cell? (ad325.add ((x3_1).toNat * 6))=some (.bool ((Qa l0 x3_1).f0))∧w'.cell? ⟨(ad325.add ((x3_1).toNat * 6)).block,(ad325.add ((x3_1).toNat * 6)).off+1,none⟩=some (.bool ((Qa l0 x3_1).f1))∧w'.cell? ⟨(ad325.add ((x3_1).toNat * 6)).block,(ad325.add ((x3_1).toNat * 6)).off+2,none⟩=some (.int .i64 ((Qa l0 x3_1).f2))∧w'.cell? ⟨(ad325.add ((x3_1).toNat * 6)).block,(ad325.add ((x3_1).toNat * 6)).off+3,none⟩=some (.int .i64 ((Qa l0 x3_1).f3))∧w'.cell? ⟨(ad325.add ((x3_1).toNat * 6)).block,(ad325.add ((x3_1).toNat * 6)).off+4,none⟩=some (.int .i64 ((Qa l0 x3_1).f4))∧w'.cell? ⟨(ad325.add ((x3_1).toNat * 6)).block,(ad325.add ((x3_1).toNat * 6)).off+5,none⟩=some (.slice A325_5 ((Qa l0 x3_1).f5).length c325_5)) (ds:=[]) (zzB 27 0) (by kernel_rfl) rfl rfl ⟨(zzx HB.out hw325_0),(zzx HB.out hw325_1),(zzx HB.out hw325_2),(zzx HB.out hw325_3),(zzx HB.out hw325_4),(zzx HB.out hw325_5)⟩ (fun hHeld=>?_);refine with_tabW Qo.tab4 Qo.bits4 (fun HT_ HW_=>?_);generalize wr.drew=w21 at HB HR325_5 hx325_0 hx325_1 hx325_2 hx325_3 hx325_4 hx325_5 hHeld ⊢;refine pure_ (i:=0) (N:=some 10) (v:=?_) (a':=?_) (zzB 27 1) rfl rfl (zzA2 HT_.out) (fun _ _ _ h=>h) (Or.inl ⟨by rfl,?_⟩) ?_ ?_;rotate_left
      ·
       intro w';go_simp;with_reducible rfl
      rotate_left
      ·
       simp only [Act.put,zzq,zzr,zzs,i64_w,i32_w];rfl
      refine pure_ (i:=1) (N:=some 11) (v:=?_) (a':=?_) (zzB 27 3) rfl rfl (zzA2 HT_.out) (fun _ _ _ h=>h) (Or.inl ⟨by rfl,?_⟩) ?_ ?_;rotate_left
      ·
       intro w';go_simp;with_reducible rfl
      rotate_left
      ·
       simp only [Act.put,zzq,zzr,zzs,i64_w,i32_w];rfl
      refine pure_ (i:=2) (N:=some 12) (v:=?_) (a':=?_) (zzB 27 7) rfl rfl (zzA2 HT_.out) (fun _ _ _ h=>h) (Or.inl ⟨by rfl,?_⟩) ?_ ?_;rotate_left
      ·
       intro w';go_simp;with_reducible rfl
      rotate_left
      ·
       simp only [Act.put,zzq,zzr,zzs,i64_w,i32_w];rfl
      refine take_ (i:=3) (N:=some 13) (v:=?_) (a':=?_) (zzB 27 15) rfl rfl (take_ofW HT_.out HW_.out (by kernel_rfl)) (fun _ _ _ h=>h) (Or.inl ⟨by rfl,?_⟩) hHeld ?_ ?_;rotate_left
      ·
       rintro w' ⟨s0,s1,s2,s3,s4,s5⟩;go_simp;with_reducible rfl
      rotate_left
      ·
       simp only [Act.put,zzq,zzr,zzs,i64_w,i32_w];rfl
      refine one_ (i:=4) (N:=some 14) (zzB 27 31) rfl rfl (one_of HT_.out (by kernel_rfl)) (by decide) (fun K hK=>?_);refine goes_ Try.func66 (by kernel_rfl) rfl #[.agg #[.bool ((Qa l0 x3_1).f0),.bool ((Qa l0 x3_1).f1),.int .i64 ((Qa l0 x3_1).f2),.int .i64 ((Qa l0 x3_1).f3),.int .i64 ((Qa l0 x3_1).f4),.slice A325_5 ((Qa l0 x3_1).f5).length c325_5]] (by rfl) rfl rfl zzM2 ?_;with_reducible refine (Qi.calls k1 ((Qa l0 x3_1).f0) ((Qa l0 x3_1).f1) ((Qa l0 x3_1).f2) ((Qa l0 x3_1).f3) ((Qa l0 x3_1).f4) _ _ ((Qa l0 x3_1).f5) false _ ?side1 ?side2 A4.out).mono ?_
      (case side1=>repeat (first|exact (Kd.C_below HR325_5.out HB.out)|(with_reducible refine Kd.C_alloc ?_ _)|(with_reducible refine Kd.C_drewN ?_ _)|(with_reducible refine Kd.C_drew ?_)))
      (case side2=>exact HC325_5.out);rintro e w22 ⟨rfl,hb⟩;refine ⟨_,rfl,?_⟩;have n0_:=zzm (zzp zzh1 hb);clear HB;have HB:=n0_;clear n0_
      (try clear hb)
      (try clear hb2)
      (try clear hk)
      (try clear hi);refine hK.out _ _ ⟨(zzx HB.out hw325_0),(zzx HB.out hw325_1),(zzx HB.out hw325_2),(zzx HB.out hw325_3),(zzx HB.out hw325_4),(zzx HB.out hw325_5)⟩ (fun hHeld=>?_);clear hK K;refine norm_ (a':=?_) ?_ ?_;rotate_left
      ·
       show Act.put _ (some 14) _ = _;simp only [Act.put,zzq,zzr,zzs,i64_w,i32_w];rfl
      refine pure_ (i:=5) (N:=some 15) (v:=?_) (a':=?_) (zzB 27 63) rfl rfl (zzA2 HT_.out) (fun _ _ _ h=>h) (Or.inl ⟨by rfl,?_⟩) ?_ ?_;rotate_left
      ·
       intro w';go_simp;with_reducible rfl
      rotate_left
      ·
       simp only [Act.put,zzq,zzr,zzs,i64_w,i32_w];rfl
      refine pure_ (i:=6) (N:=some 16) (v:=?_) (a':=?_) (zzB 27 127) rfl rfl (zzA2 HT_.out) (fun _ _ _ h=>h) (Or.inl ⟨by rfl,?_⟩) ?_ ?_;rotate_left
      ·
       intro w';go_simp;with_reducible rfl
      rotate_left
      ·
       simp only [Act.put,zzq,zzr,zzs,i64_w,i32_w];rfl
      refine pure_ (i:=7) (N:=some 17) (v:=undef) (a':=?_) (zzB 27 255) rfl rfl (zzA2 HT_.out) (fun _ _ _ h=>h) (Or.inr ⟨by rfl,rfl⟩) ?_ ?_;rotate_left
      ·
       simp only [Act.put,zzq,zzr,zzs,i64_w,i32_w];rfl
      refine pure_ (i:=8) (N:=some 18) (v:=undef) (a':=?_) (zzB 27 511) rfl rfl (zzA2 HT_.out) (fun _ _ _ h=>h) (Or.inr ⟨by rfl,rfl⟩) ?_ ?_;rotate_left
      ·
       simp only [Act.put,zzq,zzr,zzs,i64_w,i32_w];rfl
      refine pure_ (i:=9) (N:=some 19) (v:=undef) (a':=?_) (zzB 27 1023) rfl rfl (zzA2 HT_.out) (fun _ _ _ h=>h) (Or.inr ⟨by rfl,rfl⟩) ?_ ?_;rotate_left
      ·
       simp only [Act.put,zzq,zzr,zzs,i64_w,i32_w];rfl
      refine pure_ (i:=10) (N:=some 20) (v:=undef) (a':=?_) (zzB 27 2047) rfl rfl (zzA2 HT_.out) (fun _ _ _ h=>h) (Or.inr ⟨by rfl,rfl⟩) ?_ ?_;rotate_left
      ·
       simp only [Act.put,zzq,zzr,zzs,i64_w,i32_w];rfl
      refine pure_ (i:=11) (N:=some 21) (v:=undef) (a':=?_) (zzB 27 4095) rfl rfl (zzA2 HT_.out) (fun _ _ _ h=>h) (Or.inr ⟨by rfl,rfl⟩) ?_ ?_;rotate_left
      ·
       simp only [Act.put,zzq,zzr,zzs,i64_w,i32_w];rfl
      refine pure_ (i:=12) (N:=some 22) (v:=undef) (a':=?_) (zzB 27 8191) rfl rfl (zzA2 HT_.out) (fun _ _ _ h=>h) (Or.inr ⟨by rfl,rfl⟩) ?_ ?_;rotate_left
      ·
       simp only [Act.put,zzq,zzr,zzs,i64_w,i32_w];rfl
      refine pure_ (i:=13) (N:=some 23) (v:=undef) (a':=?_) (zzB 27 16383) rfl rfl (zzA2 HT_.out) (fun _ _ _ h=>h) (Or.inr ⟨by rfl,rfl⟩) ?_ ?_;rotate_left
      ·
       simp only [Act.put,zzq,zzr,zzs,i64_w,i32_w];rfl
      refine pure_ (i:=14) (N:=some 24) (v:=undef) (a':=?_) (zzB 27 32767) rfl rfl (zzA2 HT_.out) (fun _ _ _ h=>h) (Or.inr ⟨by rfl,rfl⟩) ?_ ?_;rotate_left
      ·
       simp only [Act.put,zzq,zzr,zzs,i64_w,i32_w];rfl
      refine pure_ (i:=15) (N:=some 25) (v:=undef) (a':=?_) (zzB 27 65535) rfl rfl (zzA2 HT_.out) (fun _ _ _ h=>h) (Or.inr ⟨by rfl,rfl⟩) ?_ ?_;rotate_left
      ·
       simp only [Act.put,zzq,zzr,zzs,i64_w,i32_w];rfl
      refine pure_ (i:=16) (N:=some 26) (v:=undef) (a':=?_) (zzB 27 131071) rfl rfl (zzA2 HT_.out) (fun _ _ _ h=>h) (Or.inr ⟨by rfl,rfl⟩) ?_ ?_;rotate_left
      ·
       simp only [Act.put,zzq,zzr,zzs,i64_w,i32_w];rfl
      refine pure_ (i:=17) (N:=some 27) (v:=undef) (a':=?_) (zzB 27 262143) rfl rfl (zzA2 HT_.out) (fun _ _ _ h=>h) (Or.inr ⟨by rfl,rfl⟩) ?_ ?_;rotate_left
      ·
       simp only [Act.put,zzq,zzr,zzs,i64_w,i32_w];rfl
      refine pure_ (i:=18) (N:=some 28) (v:=undef) (a':=?_) (zzB 27 524287) rfl rfl (zzA2 HT_.out) (fun _ _ _ h=>h) (Or.inr ⟨by rfl,rfl⟩) ?_ ?_;rotate_left
      ·
       simp only [Act.put,zzq,zzr,zzs,i64_w,i32_w];rfl
      refine pure_ (i:=19) (N:=some 29) (v:=undef) (a':=?_) (zzB 27 1048575) rfl rfl (zzA2 HT_.out) (fun _ _ _ h=>h) (Or.inr ⟨by rfl,rfl⟩) ?_ ?_;rotate_left
      ·
       simp only [Act.put,zzq,zzr,zzs,i64_w,i32_w];rfl
      refine pure_ (i:=20) (N:=some 30) (v:=undef) (a':=?_) (zzB 27 2097151) rfl rfl (zzA2 HT_.out) (fun _ _ _ h=>h) (Or.inr ⟨by rfl,rfl⟩) ?_ ?_;rotate_left
      ·
       simp only [Act.put,zzq,zzr,zzs,i64_w,i32_w];rfl
      refine pure_ (i:=21) (N:=some 31) (v:=undef) (a':=?_) (zzB 27 4194303) rfl rfl (zzA2 HT_.out) (fun _ _ _ h=>h) (Or.inr ⟨by rfl,rfl⟩) ?_ ?_;rotate_left
      ·
       simp only [Act.put,zzq,zzr,zzs,i64_w,i32_w];rfl
      refine pure_ (i:=22) (N:=some 32) (v:=undef) (a':=?_) (zzB 27 8388607) rfl rfl (zzA2 HT_.out) (fun _ _ _ h=>h) (Or.inr ⟨by rfl,rfl⟩) ?_ ?_;rotate_left
      ·
       simp only [Act.put,zzq,zzr,zzs,i64_w,i32_w];rfl
      refine pure_ (i:=23) (N:=some 33) (v:=undef) (a':=?_) (zzB 27 16777215) rfl rfl (zzA2 HT_.out) (fun _ _ _ h=>h) (Or.inr ⟨by rfl,rfl⟩) ?_ ?_;rotate_left
      ·
       simp only [Act.put,zzq,zzr,zzs,i64_w,i32_w];rfl
      refine pure_ (i:=24) (N:=some 34) (v:=undef) (a':=?_) (zzB 27 33554431) rfl rfl (zzA2 HT_.out) (fun _ _ _ h=>h) (Or.inr ⟨by rfl,rfl⟩) ?_ ?_;rotate_left
      ·
       simp only [Act.put,zzq,zzr,zzs,i64_w,i32_w];rfl
      refine pure_ (i:=25) (N:=some 35) (v:=undef) (a':=?_) (zzB 27 67108863) rfl rfl (zzA2 HT_.out) (fun _ _ _ h=>h) (Or.inr ⟨by rfl,rfl⟩) ?_ ?_;rotate_left
      ·
       simp only [Act.put,zzq,zzr,zzs,i64_w,i32_w];rfl
      refine pure_ (i:=26) (N:=some 36) (v:=?_) (a':=?_) (zzB 27 134217727) rfl rfl (zzA2 HT_.out) (fun _ _ _ h=>h) (Or.inl ⟨by rfl,?_⟩) ?_ ?_;rotate_left
      ·
       intro w';go_simp;with_reducible rfl
      rotate_left
      ·
       simp only [Act.put,zzq,zzr,zzs,i64_w,i32_w];rfl
      refine done_ (done_of HT_.out (by kernel_rfl)) ?_;try go_wp2
      go_ret;exact ⟨by first|rfl|(simp [errW_none,errW_some] <;> rfl)|(simp [*,errW_none,errW_some] <;> rfl),zzh1⟩
    ·
     rw [if_neg c3] at H;exact absurd H (by simp)
   ·
    rw [if_neg c2] at H;have c2b0:decide (x3_1 < (l0.length:Int))=false:=decide_eq_false c2;clear c2;obtain rfl:=Option.some.inj H;go_wp2;go_ret;exact ⟨by first|rfl|(simp [errW_none,errW_some] <;> rfl)|(simp [*,errW_none,errW_some] <;> rfl),zzh1⟩
end Go.Proofs.Ytkhjmhdgcmffaaa.U
