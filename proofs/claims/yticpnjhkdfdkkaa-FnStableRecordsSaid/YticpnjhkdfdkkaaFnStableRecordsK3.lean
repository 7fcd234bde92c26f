/- The law FnStableRecords holds (part 4 of 7; merged by pack2.py). -/
import Derived.LaidEqlPtr
import Derived.Lib.Builder
import Derived.Test.YticpnjhkdfdkkaaFnStableRecordsK2
open List (setIfInBounds_toArray set_cons_zero set_cons_succ map_toArray map_cons map_nil length_drop length_take)
namespace Go.Proofs.Yticpnjhkdfdkkaa.T
open Go.RowKit Go.Proofs.YticpnjhkdfdkkaaW.PrintWords Go.Proofs.YticpnjhkdfdkkaaW.PrintLast Go.Proofs.YticpnjhkdfdkkaaW.PrintMore
attribute [local go_sem] max2_int max_two
set_option linter.unusedVariables false
set_option linter.unusedSimpArgs false
mutual
def impl_BatchValid.j0:Nat→Bool→Bool→Int→Int→Int→List (S34)→Option (Bool)
 | 0,_,_,_,_,_,_=>none
 | k+1,x257000,x257001,x257002,x257003,x257004,x257005=>(impl_within.f (x257005.length:Int) 1 6).bind fun t260=>(if t260=true then (if x257001=true then (impl_BatchValid.j1 k ((x257005.length:Int) != 1) x257000 x257001 x257002 x257003 x257004 x257005) else (impl_BatchValid.j1 k false x257000 x257001 x257002 x257003 x257004 x257005)) else (impl_BatchValid.j1 k true x257000 x257001 x257002 x257003 x257004 x257005))
def impl_BatchValid.j1:Nat→Bool→Bool→Bool→Int→Int→Int→List (S34)→Option (Bool)
 | 0,_,_,_,_,_,_,_=>none
 | k+1,x50,x257000,x257001,x257002,x257003,x257004,x257005=>if x50=true then (some false) else (impl_BatchValid.l0 k x257005 (x257005.length:Int) 0 x257000 x257001 x257002 x257003 x257004 x257005)
def impl_BatchValid.l0:Nat→List (S34)→Int→Int→Bool→Bool→Int→Int→Int→List (S34)→Option (Bool)
 | 0,_,_,_,_,_,_,_,_,_=>none
 | k+1,x52,x53,x54,x257000,x257001,x257002,x257003,x257004,x257005=>if x54 < x53 then (if 0≤x54 then (if x54 < (x52.length:Int) then ((impl_RecordValid.f k ((rd_T34 x52 x54).f0) ((rd_T34 x52 x54).f1) ((rd_T34 x52 x54).f2) ((rd_T34 x52 x54).f3) ((rd_T34 x52 x54).f4) ((rd_T34 x52 x54).f5)).bind fun t263=>(if t263=true then (if x54 > 0 then (if 0≤(wrap64 (x54 - 1)) then (if (wrap64 (x54 - 1)) < (x257005.length:Int) then (if ((rd_T34 x257005 (wrap64 (x54 - 1))).f0) ≥ ((rd_T34 x52 x54).f0) then (some false) else (impl_BatchValid.l0 k x52 x53 (wrap64 (x54+1)) x257000 x257001 x257002 x257003 x257004 x257005)) else (none)) else (none)) else (impl_BatchValid.l0 k x52 x53 (wrap64 (x54+1)) x257000 x257001 x257002 x257003 x257004 x257005)) else (some false))) else (none)) else (none)) else (some true)
end
def impl_BatchValid.f (k:Nat) (a0_0:Bool) (a0_1:Bool) (a0_2:Int) (a0_3:Int) (a0_4:Int) (l0_5:List (S34)):Option (Bool):=if a0_2=255 then (if a0_3=0 then (if a0_4=0 then (if a0_1=true then (some false) else (impl_BatchValid.j0 k a0_0 a0_1 a0_2 a0_3 a0_4 l0_5)) else (some false)) else (some false)) else ((impl_idValid.f a0_2).bind fun t257=>(if t257=true then ((impl_within.f a0_3 0 99).bind fun t258=>(if t258=true then ((impl_within.f a0_4 0 9999).bind fun t259=>(if t259=true then (impl_BatchValid.j0 k a0_0 a0_1 a0_2 a0_3 a0_4 l0_5) else (some false))) else (some false))) else (some false)))
def impl_BatchValid.T11:Bool×List (List Nat×List Nat):=(true,[([],[]),([0],[0]),([1],[1]),([2,1],[2]),([3],[3]),([4,3],[3,4]),([5,3,3],[3,5]),([6],[6]),([7,6],[6,7]),([6],[6]),([9,6],[6,9]),([8,10,6],[6,8,10]),([11,6],[6,11]),([12,6],[6,12]),([6],[6]),([14,6],[6,14]),([13,15,6],[6,13,15]),([6,16,3],[3,6,16]),([3,17],[3,17])])
def impl_BatchValid.B11:List Nat:=[0,1,3,7,15,31,63,127,255,127,639,2047,4095,8191,127,16511,65535,131071,262143]
theorem impl_BatchValid.tab11:rtab .any (opsOf Try.f22 11)=impl_BatchValid.T11:=by kernel_rfl
theorem impl_BatchValid.bits11:waitsOk impl_BatchValid.T11.2 impl_BatchValid.B11=true:=by kernel_rfl
set_option maxHeartbeats 8000000 in
set_option maxRecDepth 100000 in
theorem impl_BatchValid.calls (k:Nat) (a0_0:Bool) (a0_1:Bool) (a0_2:Int) (a0_3:Int) (a0_4:Int) (A0_5:Option Addr) (c0_5:Nat) (l0_5:List (S34)) (r:Bool) (w:World) (hr0_5:Kd.C k34 w A0_5 l0_5.length l0_5) (hc0_5:l0_5.length≤c0_5) (h:impl_BatchValid.f k a0_0 a0_1 a0_2 a0_3 a0_4 l0_5=some r) :
  Calls Try.prog 22 #[.agg #[.bool a0_0,.bool a0_1,.int .i64 a0_2,.int .i64 a0_3,.int .i64 a0_4,.slice A0_5 l0_5.length c0_5]] w fun e w'=>e = .returned (.bool r)∧Below w.heap.size w w':=by
 have hu27:=Try.underlying27;have hu34:=Try.underlying34;have HR0_5:=zzm hr0_5;have HC0_5:=zzm hc0_5;clear hr0_5 hc0_5;have HB:=zzm (Below.refl w.heap.size w);have H:(if a0_2=255 then (if a0_3=0 then (if a0_4=0 then (if a0_1=true then (some false) else (impl_BatchValid.j0 k a0_0 a0_1 a0_2 a0_3 a0_4 l0_5)) else (some false)) else (some false)) else ((impl_idValid.f a0_2).bind fun t257=>(if t257=true then ((impl_within.f a0_3 0 99).bind fun t258=>(if t258=true then ((impl_within.f a0_4 0 9999).bind fun t259=>(if t259=true then (impl_BatchValid.j0 k a0_0 a0_1 a0_2 a0_3 a0_4 l0_5) else (some false))) else (some false))) else (some false))))=some r:=h;clear h;have HC2:=zzm H;clear H;go_enter Try.func22,Try.ntmps22;go_upto_if 7 with (first|((with_reducible refine gate_dst (N:=1) rfl ?_);(try (refine gate_guard (by rfl) ?_;dsimp only));refine box_event ?hg (N:=1) ?hd (cs:=#[.bool a0_0,.bool a0_1,.int .i64 a0_2,.int .i64 a0_3,.int .i64 a0_4,.slice A0_5 l0_5.length c0_5]) (t:=27) ?hr ?_;(case hd=>rfl);(case hg=>rfl);(case hr=>first|(go_simp;done)|(go_simp;rfl));intro gb256 hg w3 hbox hb;have n0_:=zzm (zzp zzh1 hb);have n1_:=zzm (hbox);have n2_:=zzm ((by rw [hg];exact (zzo zzh1):w.heap.size≤gb256));have n3_:=zzm ((by rw [hg];exact (zzo zzh1):w.heap.size≤gb256));clear HB;have HB:=n0_;have BK256:=n1_;have GW256:=n2_;have GE256:=n3_;clear n0_ n1_ n2_ n3_ hb hbox hg;obtain ⟨hcz4_0,hcz4_1,hcz4_2,hcz4_3,hcz4_4,hcz4_5,hfz4_0,hfz4_1,hfz4_2,hfz4_3,hfz4_4,hfz4_5⟩:=zzc6 BK256.out));(try simp only [Act.put,zzq,zzr,zzs]);go_cut [] (fun wc=>∃ (kq:Nat),Aside0 (impl_BatchValid.j0 kq a0_0 a0_1 a0_2 a0_3 a0_4 l0_5=some r)∧Aside0 (kq≤k)∧Aside0 (wc.heap[gb256]? = some (.cells #[.bool a0_0,.bool a0_1,.int .i64 a0_2,.int .i64 a0_3,.int .i64 a0_4,(.slice A0_5 l0_5.length c0_5)] 27 (0,0)))∧Aside0 (Below w.heap.size w wc))
 case first=>
  have H:=HC2.out;clear HC2;by_cases c5:a0_2=255
  ·
   rw [if_pos c5] at H;have c5b0:(a0_2==255)=true:=beq_iff_eq.mpr c5;have c5b1:(a0_2 != 255)=false:=bne_eq_false_iff_eq.mpr c5;clear c5;(first|rw [c5b0]|(simp only [i64_w,i32_w];rw [c5b0])|skip);by_cases c6:a0_3=0
   ·
    rw [if_pos c6] at H;have c6b0:(a0_3==0)=true:=beq_iff_eq.mpr c6;have c6b1:(a0_3 != 0)=false:=bne_eq_false_iff_eq.mpr c6;clear c6;by_cases c7:a0_4=0
    ·
     rw [if_pos c7] at H;have c7b0:(a0_4==0)=true:=beq_iff_eq.mpr c7;have c7b1:(a0_4 != 0)=false:=bne_eq_false_iff_eq.mpr c7;clear c7;by_cases c8:a0_1=true
     ·
      subst c8;have H1:(some false)=some r:=by rw [if_pos rfl] at H;exact H
      clear H;have H:=H1;clear H1;obtain rfl:=Option.some.inj H;obtain ⟨hcz9_0,hcz9_1,hcz9_2,hcz9_3,hcz9_4,hcz9_5,hfz9_0,hfz9_1,hfz9_2,hfz9_3,hfz9_4,hfz9_5⟩:=zzc6 BK256.out;go_wp2;go_ret;exact ⟨by first|rfl|(simp [errW_none,errW_some] <;> rfl)|(simp [*,errW_none,errW_some] <;> rfl),by repeat (first|(with_reducible first|exact HB.out|apply zza|apply zzb|apply zzc|refine zzd ?_ GE256.out)|exact HB.out)⟩
     ·
      replace c8:=Bool.eq_false_iff.mpr c8;subst c8;have H1:(impl_BatchValid.j0 k a0_0 false a0_2 a0_3 a0_4 l0_5)=some r:=by rw [if_neg (show ¬ (false=true) by decide)] at H;exact H
      clear H;have H:=H1;clear H1;have H':=zzm H;clear H;obtain ⟨hcz10_0,hcz10_1,hcz10_2,hcz10_3,hcz10_4,hcz10_5,hfz10_0,hfz10_1,hfz10_2,hfz10_3,hfz10_4,hfz10_5⟩:=zzc6 BK256.out;go_wp2;go_meet
      case rel=>exact ⟨_,H',⟨by first|omega|exact Nat.le_refl _⟩,⟨by (with_reducible repeat (first|apply zzf|apply zzg|apply zze));exact BK256.out⟩,⟨by repeat (first|(with_reducible first|exact HB.out|apply zza|apply zzb|apply zzc|refine zzd ?_ GE256.out)|exact HB.out)⟩⟩
    ·
     rw [if_neg c7] at H;have c7b0:(a0_4==0)=false:=beq_eq_false_iff_ne.mpr c7;have c7b1:(a0_4 != 0)=true:=bne_iff_ne.mpr c7;obtain rfl:=Option.some.inj H;obtain ⟨hcz11_0,hcz11_1,hcz11_2,hcz11_3,hcz11_4,hcz11_5,hfz11_0,hfz11_1,hfz11_2,hfz11_3,hfz11_4,hfz11_5⟩:=zzc6 BK256.out;go_wp2;go_ret;exact ⟨by first|rfl|(simp [errW_none,errW_some] <;> rfl)|(simp [*,errW_none,errW_some] <;> rfl),by repeat (first|(with_reducible first|exact HB.out|apply zza|apply zzb|apply zzc|refine zzd ?_ GE256.out)|exact HB.out)⟩
   ·
    rw [if_neg c6] at H;have c6b0:(a0_3==0)=false:=beq_eq_false_iff_ne.mpr c6;have c6b1:(a0_3 != 0)=true:=bne_iff_ne.mpr c6;obtain rfl:=Option.some.inj H;obtain ⟨hcz12_0,hcz12_1,hcz12_2,hcz12_3,hcz12_4,hcz12_5,hfz12_0,hfz12_1,hfz12_2,hfz12_3,hfz12_4,hfz12_5⟩:=zzc6 BK256.out;go_wp2;go_ret;exact ⟨by first|rfl|(simp [errW_none,errW_some] <;> rfl)|(simp [*,errW_none,errW_some] <;> rfl),by repeat (first|(with_reducible first|exact HB.out|apply zza|apply zzb|apply zzc|refine zzd ?_ GE256.out)|exact HB.out)⟩
  ·
   rw [if_neg c5] at H;have c5b0:(a0_2==255)=false:=beq_eq_false_iff_ne.mpr c5;have c5b1:(a0_2 != 255)=true:=bne_iff_ne.mpr c5;(first|rw [c5b0]|(simp only [i64_w,i32_w];rw [c5b0])|skip);replace H:=Option.bind_eq_some_iff.mp H;obtain ⟨t257,A130,H⟩:=H;replace H:(if t257=true then ((impl_within.f a0_3 0 99).bind fun t258=>(if t258=true then ((impl_within.f a0_4 0 9999).bind fun t259=>(if t259=true then (impl_BatchValid.j0 k a0_0 a0_1 a0_2 a0_3 a0_4 l0_5) else (some false))) else (some false))) else (some false))=some r:=H;have A13:=zzm A130;clear A130;by_cases c14:t257=true
   ·
    subst c14;have H1:((impl_within.f a0_3 0 99).bind fun t258=>(if t258=true then ((impl_within.f a0_4 0 9999).bind fun t259=>(if t259=true then (impl_BatchValid.j0 k a0_0 a0_1 a0_2 a0_3 a0_4 l0_5) else (some false))) else (some false)))=some r:=by rw [if_pos rfl] at H;exact H
    clear H;have H:=H1;clear H1;replace H:=Option.bind_eq_some_iff.mp H;obtain ⟨t258,A150,H⟩:=H;replace H:(if t258=true then ((impl_within.f a0_4 0 9999).bind fun t259=>(if t259=true then (impl_BatchValid.j0 k a0_0 a0_1 a0_2 a0_3 a0_4 l0_5) else (some false))) else (some false))=some r:=H;have A15:=zzm A150;clear A150;by_cases c16:t258=true
    ·
     subst c16;have H1:((impl_within.f a0_4 0 9999).bind fun t259=>(if t259=true then (impl_BatchValid.j0 k a0_0 a0_1 a0_2 a0_3 a0_4 l0_5) else (some false)))=some r:=by rw [if_pos rfl] at H;exact H
     clear H;have H:=H1;clear H1;replace H:=Option.bind_eq_some_iff.mp H;obtain ⟨t259,A170,H⟩:=H;replace H:(if t259=true then (impl_BatchValid.j0 k a0_0 a0_1 a0_2 a0_3 a0_4 l0_5) else (some false))=some r:=H;have A17:=zzm A170;clear A170;by_cases c18:t259=true
     ·
      subst c18;have H1:(impl_BatchValid.j0 k a0_0 a0_1 a0_2 a0_3 a0_4 l0_5)=some r:=by rw [if_pos rfl] at H;exact H
      clear H;have H:=H1;clear H1;have H':=zzm H;clear H;obtain ⟨hcz19_0,hcz19_1,hcz19_2,hcz19_3,hcz19_4,hcz19_5,hfz19_0,hfz19_1,hfz19_2,hfz19_3,hfz19_4,hfz19_5⟩:=zzc6 BK256.out;go_wp2_with (first|((with_reducible refine gate_callee (f:=56) rfl ?_);refine goesL_ (some 22) rfl rfl Try.func56 (by kernel_rfl) rfl #[.int .i64 a0_2] rfl zzM2 ?_;(with_reducible refine (impl_idValid.calls a0_2 true _ A13.out).mono ?_);rintro e w' ⟨rfl,⟨nd,rfl⟩⟩;refine ⟨_,rfl,?_⟩)|(go_at_call 57;(with_reducible refine (impl_within.calls a0_3 0 99 true _ A15.out).mono ?_);rintro e w' ⟨rfl,⟨nd,rfl⟩⟩)|(go_at_call 57;(with_reducible refine (impl_within.calls a0_4 0 9999 true _ A17.out).mono ?_);rintro e w' ⟨rfl,⟨nd,rfl⟩⟩));go_meet
      case rel=>exact ⟨_,H',⟨by first|omega|exact Nat.le_refl _⟩,⟨by (with_reducible repeat (first|apply zzf|apply zzg|apply zze));exact BK256.out⟩,⟨by repeat (first|(with_reducible first|exact HB.out|apply zza|apply zzb|apply zzc|refine zzd ?_ GE256.out)|exact HB.out)⟩⟩
     ·
      replace c18:=Bool.eq_false_iff.mpr c18;subst c18;have H1:(some false)=some r:=by rw [if_neg (show ¬ (false=true) by decide)] at H;exact H
      clear H;have H:=H1;clear H1;obtain rfl:=Option.some.inj H;obtain ⟨hcz20_0,hcz20_1,hcz20_2,hcz20_3,hcz20_4,hcz20_5,hfz20_0,hfz20_1,hfz20_2,hfz20_3,hfz20_4,hfz20_5⟩:=zzc6 BK256.out;go_wp2_with (first|((with_reducible refine gate_callee (f:=56) rfl ?_);refine goesL_ (some 22) rfl rfl Try.func56 (by kernel_rfl) rfl #[.int .i64 a0_2] rfl zzM2 ?_;(with_reducible refine (impl_idValid.calls a0_2 true _ A13.out).mono ?_);rintro e w' ⟨rfl,⟨nd,rfl⟩⟩;refine ⟨_,rfl,?_⟩)|(go_at_call 57;(with_reducible refine (impl_within.calls a0_3 0 99 true _ A15.out).mono ?_);rintro e w' ⟨rfl,⟨nd,rfl⟩⟩)|(go_at_call 57;(with_reducible refine (impl_within.calls a0_4 0 9999 false _ A17.out).mono ?_);rintro e w' ⟨rfl,⟨nd,rfl⟩⟩));go_ret;exact ⟨by first|rfl|(simp [errW_none,errW_some] <;> rfl)|(simp [*,errW_none,errW_some] <;> rfl),by repeat (first|(with_reducible first|exact HB.out|apply zza|apply zzb|apply zzc|refine zzd ?_ GE256.out)|exact HB.out)⟩
    ·
     replace c16:=Bool.eq_false_iff.mpr c16;subst c16;have H1:(some false)=some r:=by rw [if_neg (show ¬ (false=true) by decide)] at H;exact H
     clear H;have H:=H1;clear H1;obtain rfl:=Option.some.inj H;obtain ⟨hcz21_0,hcz21_1,hcz21_2,hcz21_3,hcz21_4,hcz21_5,hfz21_0,hfz21_1,hfz21_2,hfz21_3,hfz21_4,hfz21_5⟩:=zzc6 BK256.out;go_wp2_with (first|((with_reducible refine gate_callee (f:=56) rfl ?_);refine goesL_ (some 22) rfl rfl Try.func56 (by kernel_rfl) rfl #[.int .i64 a0_2] rfl zzM2 ?_;(with_reducible refine (impl_idValid.calls a0_2 true _ A13.out).mono ?_);rintro e w' ⟨rfl,⟨nd,rfl⟩⟩;refine ⟨_,rfl,?_⟩)|(go_at_call 57;(with_reducible refine (impl_within.calls a0_3 0 99 false _ A15.out).mono ?_);rintro e w' ⟨rfl,⟨nd,rfl⟩⟩));go_ret;exact ⟨by first|rfl|(simp [errW_none,errW_some] <;> rfl)|(simp [*,errW_none,errW_some] <;> rfl),by repeat (first|(with_reducible first|exact HB.out|apply zza|apply zzb|apply zzc|refine zzd ?_ GE256.out)|exact HB.out)⟩
   ·
    replace c14:=Bool.eq_false_iff.mpr c14;subst c14;have H1:(some false)=some r:=by rw [if_neg (show ¬ (false=true) by decide)] at H;exact H
    clear H;have H:=H1;clear H1;obtain rfl:=Option.some.inj H;obtain ⟨hcz22_0,hcz22_1,hcz22_2,hcz22_3,hcz22_4,hcz22_5,hfz22_0,hfz22_1,hfz22_2,hfz22_3,hfz22_4,hfz22_5⟩:=zzc6 BK256.out;go_wp2_with (first|((with_reducible refine gate_callee (f:=56) rfl ?_);refine goesL_ (some 22) rfl rfl Try.func56 (by kernel_rfl) rfl #[.int .i64 a0_2] rfl zzM2 ?_;(with_reducible refine (impl_idValid.calls a0_2 false _ A13.out).mono ?_);rintro e w' ⟨rfl,⟨nd,rfl⟩⟩;refine ⟨_,rfl,?_⟩));go_ret;exact ⟨by first|rfl|(simp [errW_none,errW_some] <;> rfl)|(simp [*,errW_none,errW_some] <;> rfl),by repeat (first|(with_reducible first|exact HB.out|apply zza|apply zzb|apply zzc|refine zzd ?_ GE256.out)|exact HB.out)⟩
 case rest=>
  clear HC2;try clear c1
  try clear c2
  try clear p2
  try clear c5
  try clear c5b0
  try clear c5b1
  try clear c6
  try clear c6b0
  try clear c6b1
  try clear c7
  try clear c7b0
  try clear c7b1
  try clear c8
  try clear c14
  try clear c16
  try clear c18
  try clear c22
  try clear hcz10_0
  try clear hcz10_1
  try clear hcz10_2
  try clear hcz10_3
  try clear hcz10_4
  try clear hcz10_5
  try clear hcz11_0
  try clear hcz11_1
  try clear hcz11_2
  try clear hcz11_3
  try clear hcz11_4
  try clear hcz11_5
  try clear hcz12_0
  try clear hcz12_1
  try clear hcz12_2
  try clear hcz12_3
  try clear hcz12_4
  try clear hcz12_5
  try clear hcz19_0
  try clear hcz19_1
  try clear hcz19_2
  try clear hcz19_3
  try clear hcz19_4
  try clear hcz19_5
  try clear hcz20_0
  try clear hcz20_1
  try clear hcz20_2
  try clear hcz20_3
  try clear hcz20_4
  try clear hcz20_5
  try clear hcz21_0
  try clear hcz21_1
  try clear hcz21_2
  try clear hcz21_3
  try clear hcz21_4
  try clear hcz21_5
  try clear hcz22_0
  try clear hcz22_1
  try clear hcz22_2
  try clear hcz22_3
  try clear hcz22_4
  try clear hcz22_5
  try clear hcz4_0
  try clear hcz4_1
  try clear hcz4_2
  try clear hcz4_3
  try clear hcz4_4
  try clear hcz4_5
  try clear hcz9_0
  try clear hcz9_1
  try clear hcz9_2
  try clear hcz9_3
  try clear hcz9_4
  try clear hcz9_5
  try clear hfz10_0
  try clear hfz10_1
  try clear hfz10_2
  try clear hfz10_3
  try clear hfz10_4
  try clear hfz10_5
  try clear hfz11_0
  try clear hfz11_1
  try clear hfz11_2
  try clear hfz11_3
  try clear hfz11_4
  try clear hfz11_5
  try clear hfz12_0
  try clear hfz12_1
  try clear hfz12_2
  try clear hfz12_3
  try clear hfz12_4
  try clear hfz12_5
  try clear hfz19_0
  try clear hfz19_1
  try clear hfz19_2
  try clear hfz19_3
  try clear hfz19_4
  try clear hfz19_5
  try clear hfz20_0
  try clear hfz20_1
  try clear hfz20_2
  try clear hfz20_3
  try clear hfz20_4
  try clear hfz20_5
  try clear hfz21_0
  try clear hfz21_1
  try clear hfz21_2
  try clear hfz21_3
  try clear hfz21_4
  try clear hfz21_5
  try clear hfz22_0
  try clear hfz22_1
  try clear hfz22_2
  try clear hfz22_3
  try clear hfz22_4
  try clear hfz22_5
  try clear hfz4_0
  try clear hfz4_1
  try clear hfz4_2
  try clear hfz4_3
  try clear hfz4_4
  try clear hfz4_5
  try clear hfz9_0
  try clear hfz9_1
  try clear hfz9_2
  try clear hfz9_3
  try clear hfz9_4
  try clear hfz9_5
  obtain ⟨kq,HA,HJ1,BK256,HB⟩:=hcut;cases kq with
  | zero=>exact absurd HA.out (by simp [impl_BatchValid.j0])
  | succ kj1=>
   have H:=HA.out;clear HA;simp only [impl_BatchValid.j0] at H;have HC23:=zzm H;clear H;go_upto_region 6 with (fail);go_cut [50] (fun v50 wc=>∃ (kq:Nat) (x50_22:Bool),v50 = .bool x50_22∧Aside0 (impl_BatchValid.j1 kq x50_22 a0_0 a0_1 a0_2 a0_3 a0_4 l0_5=some r)∧Aside0 (kq≤kj1)∧Aside0 (wc.heap[gb256]? = some (.cells #[.bool a0_0,.bool a0_1,.int .i64 a0_2,.int .i64 a0_3,.int .i64 a0_4,(.slice A0_5 l0_5.length c0_5)] 27 (0,0)))∧Aside0 (Below w.heap.size w wc))
   case first=>
    have H:=HC23.out;clear HC23;replace H:=Option.bind_eq_some_iff.mp H;obtain ⟨t260,A240,H⟩:=H;replace H:(if t260=true then (if a0_1=true then (impl_BatchValid.j1 kj1 ((l0_5.length:Int) != 1) a0_0 a0_1 a0_2 a0_3 a0_4 l0_5) else (impl_BatchValid.j1 kj1 false a0_0 a0_1 a0_2 a0_3 a0_4 l0_5)) else (impl_BatchValid.j1 kj1 true a0_0 a0_1 a0_2 a0_3 a0_4 l0_5))=some r:=H;have A24:=zzm A240;clear A240;by_cases c25:t260=true
    ·
     subst c25;have H1:(if a0_1=true then (impl_BatchValid.j1 kj1 ((l0_5.length:Int) != 1) a0_0 a0_1 a0_2 a0_3 a0_4 l0_5) else (impl_BatchValid.j1 kj1 false a0_0 a0_1 a0_2 a0_3 a0_4 l0_5))=some r:=by rw [if_pos rfl] at H;exact H
     clear H;have H:=H1;clear H1;by_cases c26:a0_1=true
     ·
      subst c26;have H1:(impl_BatchValid.j1 kj1 ((l0_5.length:Int) != 1) a0_0 true a0_2 a0_3 a0_4 l0_5)=some r:=by rw [if_pos rfl] at H;exact H
      clear H;have H:=H1;clear H1;have H':=zzm H;clear H;obtain ⟨hcz27_0,hcz27_1,hcz27_2,hcz27_3,hcz27_4,hcz27_5,hfz27_0,hfz27_1,hfz27_2,hfz27_3,hfz27_4,hfz27_5⟩:=zzc6 BK256.out;go_wp2_with (first|((with_reducible refine gate_callee (f:=57) rfl ?_);refine goesL_ (some 39) rfl rfl Try.func57 (by kernel_rfl) rfl #[.int .i64 (l0_5.length:Int),.int .i64 1,.int .i64 6] rfl zzM2 ?_;(with_reducible refine (impl_within.calls (l0_5.length:Int) 1 6 true _ A24.out).mono ?_);rintro e w' ⟨rfl,⟨nd,rfl⟩⟩;refine ⟨_,rfl,?_⟩));go_meet
      case rel=>exact ⟨_,(((l0_5.length:Int) != 1)),(by first|rfl|(simp;done)|(simp [*];done)),H',⟨by have:=HJ1.out;first|omega|exact Nat.le_refl _⟩,⟨by (with_reducible repeat (first|apply zzf|apply zzg|apply zze));exact BK256.out⟩,⟨by repeat (first|(with_reducible first|exact HB.out|apply zza|apply zzb|apply zzc|refine zzd ?_ GE256.out)|exact HB.out)⟩⟩
     ·
      replace c26:=Bool.eq_false_iff.mpr c26;subst c26;have H1:(impl_BatchValid.j1 kj1 false a0_0 false a0_2 a0_3 a0_4 l0_5)=some r:=by rw [if_neg (show ¬ (false=true) by decide)] at H;exact H
      clear H;have H:=H1;clear H1;have H':=zzm H;clear H;obtain ⟨hcz28_0,hcz28_1,hcz28_2,hcz28_3,hcz28_4,hcz28_5,hfz28_0,hfz28_1,hfz28_2,hfz28_3,hfz28_4,hfz28_5⟩:=zzc6 BK256.out;go_wp2_with (first|((with_reducible refine gate_callee (f:=57) rfl ?_);refine goesL_ (some 39) rfl rfl Try.func57 (by kernel_rfl) rfl #[.int .i64 (l0_5.length:Int),.int .i64 1,.int .i64 6] rfl zzM2 ?_;(with_reducible refine (impl_within.calls (l0_5.length:Int) 1 6 true _ A24.out).mono ?_);rintro e w' ⟨rfl,⟨nd,rfl⟩⟩;refine ⟨_,rfl,?_⟩));go_meet
      case rel=>exact ⟨_,(false),(by first|rfl|(simp;done)|(simp [*];done)),H',⟨by have:=HJ1.out;first|omega|exact Nat.le_refl _⟩,⟨by (with_reducible repeat (first|apply zzf|apply zzg|apply zze));exact BK256.out⟩,⟨by repeat (first|(with_reducible first|exact HB.out|apply zza|apply zzb|apply zzc|refine zzd ?_ GE256.out)|exact HB.out)⟩⟩
    ·
     replace c25:=Bool.eq_false_iff.mpr c25;subst c25;have H1:(impl_BatchValid.j1 kj1 true a0_0 a0_1 a0_2 a0_3 a0_4 l0_5)=some r:=by rw [if_neg (show ¬ (false=true) by decide)] at H;exact H
     clear H;have H:=H1;clear H1;have H':=zzm H;clear H;obtain ⟨hcz29_0,hcz29_1,hcz29_2,hcz29_3,hcz29_4,hcz29_5,hfz29_0,hfz29_1,hfz29_2,hfz29_3,hfz29_4,hfz29_5⟩:=zzc6 BK256.out;go_wp2_with (first|((with_reducible refine gate_callee (f:=57) rfl ?_);refine goesL_ (some 39) rfl rfl Try.func57 (by kernel_rfl) rfl #[.int .i64 (l0_5.length:Int),.int .i64 1,.int .i64 6] rfl zzM2 ?_;(with_reducible refine (impl_within.calls (l0_5.length:Int) 1 6 false _ A24.out).mono ?_);rintro e w' ⟨rfl,⟨nd,rfl⟩⟩;refine ⟨_,rfl,?_⟩));go_meet
     case rel=>exact ⟨_,(true),(by first|rfl|(simp;done)|(simp [*];done)),H',⟨by have:=HJ1.out;first|omega|exact Nat.le_refl _⟩,⟨by (with_reducible repeat (first|apply zzf|apply zzg|apply zze));exact BK256.out⟩,⟨by repeat (first|(with_reducible first|exact HB.out|apply zza|apply zzb|apply zzc|refine zzd ?_ GE256.out)|exact HB.out)⟩⟩
   case rest=>
    clear HC23;try clear c1
    try clear c2
    try clear p2
    try clear c5
    try clear c5b0
    try clear c5b1
    try clear c6
    try clear c6b0
    try clear c6b1
    try clear c7
    try clear c7b0
    try clear c7b1
    try clear c8
    try clear c14
    try clear c16
    try clear c18
    try clear c22
    try clear c25
    try clear c26
    try clear hcz10_0
    try clear hcz10_1
    try clear hcz10_2
    try clear hcz10_3
    try clear hcz10_4
    try clear hcz10_5
    try clear hcz11_0
    try clear hcz11_1
    try clear hcz11_2
    try clear hcz11_3
    try clear hcz11_4
    try clear hcz11_5
    try clear hcz12_0
    try clear hcz12_1
    try clear hcz12_2
    try clear hcz12_3
    try clear hcz12_4
    try clear hcz12_5
    try clear hcz19_0
    try clear hcz19_1
    try clear hcz19_2
    try clear hcz19_3
    try clear hcz19_4
    try clear hcz19_5
    try clear hcz20_0
    try clear hcz20_1
    try clear hcz20_2
    try clear hcz20_3
    try clear hcz20_4
    try clear hcz20_5
    try clear hcz21_0
    try clear hcz21_1
    try clear hcz21_2
    try clear hcz21_3
    try clear hcz21_4
    try clear hcz21_5
    try clear hcz22_0
    try clear hcz22_1
    try clear hcz22_2
    try clear hcz22_3
    try clear hcz22_4
    try clear hcz22_5
    try clear hcz27_0
    try clear hcz27_1
    try clear hcz27_2
    try clear hcz27_3
    try clear hcz27_4
    try clear hcz27_5
    try clear hcz28_0
    try clear hcz28_1
    try clear hcz28_2
    try clear hcz28_3
    try clear hcz28_4
    try clear hcz28_5
    try clear hcz29_0
    try clear hcz29_1
    try clear hcz29_2
    try clear hcz29_3
    try clear hcz29_4
    try clear hcz29_5
    try clear hcz4_0
    try clear hcz4_1
    try clear hcz4_2
    try clear hcz4_3
    try clear hcz4_4
    try clear hcz4_5
    try clear hcz9_0
    try clear hcz9_1
    try clear hcz9_2
    try clear hcz9_3
    try clear hcz9_4
    try clear hcz9_5
    try clear hfz10_0
    try clear hfz10_1
    try clear hfz10_2
    try clear hfz10_3
    try clear hfz10_4
    try clear hfz10_5
    try clear hfz11_0
    try clear hfz11_1
    try clear hfz11_2
    try clear hfz11_3
    try clear hfz11_4
    try clear hfz11_5
    try clear hfz12_0
    try clear hfz12_1
    try clear hfz12_2
    try clear hfz12_3
    try clear hfz12_4
    try clear hfz12_5
    try clear hfz19_0
    try clear hfz19_1
    try clear hfz19_2
    try clear hfz19_3
    try clear hfz19_4
    try clear hfz19_5
    try clear hfz20_0
    try clear hfz20_1
    try clear hfz20_2
    try clear hfz20_3
    try clear hfz20_4
    try clear hfz20_5
    try clear hfz21_0
    try clear hfz21_1
    try clear hfz21_2
    try clear hfz21_3
    try clear hfz21_4
    try clear hfz21_5
    try clear hfz22_0
    try clear hfz22_1
    try clear hfz22_2
    try clear hfz22_3
    try clear hfz22_4
    try clear hfz22_5
    try clear hfz27_0
    try clear hfz27_1
    try clear hfz27_2
    try clear hfz27_3
    try clear hfz27_4
    try clear hfz27_5
    try clear hfz28_0
    try clear hfz28_1
    try clear hfz28_2
    try clear hfz28_3
    try clear hfz28_4
    try clear hfz28_5
    try clear hfz29_0
    try clear hfz29_1
    try clear hfz29_2
    try clear hfz29_3
    try clear hfz29_4
    try clear hfz29_5
    try clear hfz4_0
    try clear hfz4_1
    try clear hfz4_2
    try clear hfz4_3
    try clear hfz4_4
    try clear hfz4_5
    try clear hfz9_0
    try clear hfz9_1
    try clear hfz9_2
    try clear hfz9_3
    try clear hfz9_4
    try clear hfz9_5
    try clear p2
    obtain ⟨kq,x50_22,rfl,HA,HJ22,BK256,HB⟩:=hcut;cases kq with
    | zero=>exact absurd HA.out (by simp [impl_BatchValid.j1])
    | succ kj22=>
     have H:=HA.out;clear HA;simp only [impl_BatchValid.j1] at H;by_cases c30:x50_22=true
     ·
      subst c30;have H1:(some false)=some r:=by rw [if_pos rfl] at H;exact H
      clear H;have H:=H1;clear H1;obtain rfl:=Option.some.inj H;go_wp2;go_ret;exact ⟨by first|rfl|(simp [errW_none,errW_some] <;> rfl)|(simp [*,errW_none,errW_some] <;> rfl),by repeat (first|(with_reducible first|exact HB.out|apply zza|apply zzb|apply zzc|refine zzd ?_ GE256.out)|exact HB.out)⟩
     ·
      replace c30:=Bool.eq_false_iff.mpr c30;subst c30;have H1:(impl_BatchValid.l0 kj22 l0_5 (l0_5.length:Int) 0 a0_0 a0_1 a0_2 a0_3 a0_4 l0_5)=some r:=by rw [if_neg (show ¬ (false=true) by decide)] at H;exact H
      clear H;have H:=H1;clear H1;have H':=zzm H;clear H;obtain ⟨hcz31_0,hcz31_1,hcz31_2,hcz31_3,hcz31_4,hcz31_5,hfz31_0,hfz31_1,hfz31_2,hfz31_3,hfz31_4,hfz31_5⟩:=zzc6 BK256.out;go_wp2;go_loopg [54] kj22 (fun kq v54 w'=>∃ (x54_3:Int),v54 = .int .i64 x54_3∧Aside0 (impl_BatchValid.l0 kq l0_5 (l0_5.length:Int) x54_3 a0_0 a0_1 a0_2 a0_3 a0_4 l0_5=some r)∧Aside0 (kq≤kj22)∧Aside0 (w'.heap[gb256]? = some (.cells #[.bool a0_0,.bool a0_1,.int .i64 a0_2,.int .i64 a0_3,.int .i64 a0_4,(.slice A0_5 l0_5.length c0_5)] 27 (0,0)))∧Aside0 (Below w.heap.size w w'))
      case atStart=>exact ⟨(0),(by first|rfl|(simp;done)|(simp [*];done)),H',⟨Nat.le_refl _⟩,⟨by (with_reducible repeat (first|apply zzf|apply zzg|apply zze));exact BK256.out⟩,⟨by repeat (first|(with_reducible first|exact HB.out|apply zza|apply zzb|apply zzc|refine zzd ?_ GE256.out)|exact HB.out)⟩⟩
      case round=>
       clear H';try clear c1
       try clear c2
       try clear p2
       try clear c3
       try clear c5
       try clear c5b0
       try clear c5b1
       try clear c6
       try clear c6b0
       try clear c6b1
       try clear c7
       try clear c7b0
       try clear c7b1
       try clear c8
       try clear c14
       try clear c16
       try clear c18
       try clear c22
       try clear c25
       try clear c26
       try clear c30
       try clear hcz10_0
       try clear hcz10_1
       try clear hcz10_2
       try clear hcz10_3
       try clear hcz10_4
       try clear hcz10_5
       try clear hcz11_0
       try clear hcz11_1
       try clear hcz11_2
       try clear hcz11_3
       try clear hcz11_4
       try clear hcz11_5
       try clear hcz12_0
       try clear hcz12_1
       try clear hcz12_2
       try clear hcz12_3
       try clear hcz12_4
       try clear hcz12_5
       try clear hcz19_0
       try clear hcz19_1
       try clear hcz19_2
       try clear hcz19_3
       try clear hcz19_4
       try clear hcz19_5
       try clear hcz20_0
       try clear hcz20_1
       try clear hcz20_2
       try clear hcz20_3
       try clear hcz20_4
       try clear hcz20_5
       try clear hcz21_0
       try clear hcz21_1
       try clear hcz21_2
       try clear hcz21_3
       try clear hcz21_4
       try clear hcz21_5
       try clear hcz22_0
       try clear hcz22_1
       try clear hcz22_2
       try clear hcz22_3
       try clear hcz22_4
       try clear hcz22_5
       try clear hcz27_0
       try clear hcz27_1
       try clear hcz27_2
       try clear hcz27_3
       try clear hcz27_4
       try clear hcz27_5
       try clear hcz28_0
       try clear hcz28_1
       try clear hcz28_2
       try clear hcz28_3
       try clear hcz28_4
       try clear hcz28_5
       try clear hcz29_0
       try clear hcz29_1
       try clear hcz29_2
       try clear hcz29_3
       try clear hcz29_4
       try clear hcz29_5
       try clear hcz31_0
       try clear hcz31_1
       try clear hcz31_2
       try clear hcz31_3
       try clear hcz31_4
       try clear hcz31_5
       try clear hcz4_0
       try clear hcz4_1
       try clear hcz4_2
       try clear hcz4_3
       try clear hcz4_4
       try clear hcz4_5
       try clear hcz9_0
       try clear hcz9_1
       try clear hcz9_2
       try clear hcz9_3
       try clear hcz9_4
       try clear hcz9_5
       try clear hfz10_0
       try clear hfz10_1
       try clear hfz10_2
       try clear hfz10_3
       try clear hfz10_4
       try clear hfz10_5
       try clear hfz11_0
       try clear hfz11_1
       try clear hfz11_2
       try clear hfz11_3
       try clear hfz11_4
       try clear hfz11_5
       try clear hfz12_0
       try clear hfz12_1
       try clear hfz12_2
       try clear hfz12_3
       try clear hfz12_4
       try clear hfz12_5
       try clear hfz19_0
       try clear hfz19_1
       try clear hfz19_2
       try clear hfz19_3
       try clear hfz19_4
       try clear hfz19_5
       try clear hfz20_0
       try clear hfz20_1
       try clear hfz20_2
       try clear hfz20_3
       try clear hfz20_4
       try clear hfz20_5
       try clear hfz21_0
       try clear hfz21_1
       try clear hfz21_2
       try clear hfz21_3
       try clear hfz21_4
       try clear hfz21_5
       try clear hfz22_0
       try clear hfz22_1
       try clear hfz22_2
       try clear hfz22_3
       try clear hfz22_4
       try clear hfz22_5
       try clear hfz27_0
       try clear hfz27_1
       try clear hfz27_2
       try clear hfz27_3
       try clear hfz27_4
       try clear hfz27_5
       try clear hfz28_0
       try clear hfz28_1
       try clear hfz28_2
       try clear hfz28_3
       try clear hfz28_4
       try clear hfz28_5
       try clear hfz29_0
       try clear hfz29_1
       try clear hfz29_2
       try clear hfz29_3
       try clear hfz29_4
       try clear hfz29_5
       try clear hfz31_0
       try clear hfz31_1
       try clear hfz31_2
       try clear hfz31_3
       try clear hfz31_4
       try clear hfz31_5
       try clear hfz4_0
       try clear hfz4_1
       try clear hfz4_2
       try clear hfz4_3
       try clear hfz4_4
       try clear hfz4_5
       try clear hfz9_0
       try clear hfz9_1
       try clear hfz9_2
       try clear hfz9_3
       try clear hfz9_4
       try clear hfz9_5
       try clear p2
       obtain ⟨x54_3,rfl,HA,HK3,BK256,HB⟩:=hrel;cases gk with
       | zero=>exact absurd HA.out (by simp [impl_BatchValid.l0])
       | succ k3=>
        have H:=HA.out;clear HA;simp only [impl_BatchValid.l0] at H;by_cases c32:x54_3 < (l0_5.length:Int)
        ·
         rw [if_pos c32] at H;have c32b0:decide (x54_3 < (l0_5.length:Int))=true:=decide_eq_true c32;clear c32;by_cases c33 : 0≤x54_3
         ·
          rw [if_pos c33] at H;have c33b0:decide (0≤x54_3)=true:=decide_eq_true c33;clear c33;by_cases c34:x54_3 < (l0_5.length:Int)
          ·
           rw [if_pos c34] at H;have c34b0:decide (x54_3 < (l0_5.length:Int))=true:=decide_eq_true c34;clear c34;replace H:=Option.bind_eq_some_iff.mp H;obtain ⟨t263,A350,H⟩:=H;replace H:(if t263=true then (if x54_3 > 0 then (if 0≤(wrap64 (x54_3 - 1)) then (if (wrap64 (x54_3 - 1)) < (l0_5.length:Int) then (if ((rd_T34 l0_5 (wrap64 (x54_3 - 1))).f0) ≥ ((rd_T34 l0_5 x54_3).f0) then (some false) else (impl_BatchValid.l0 k3 l0_5 (l0_5.length:Int) (wrap64 (x54_3+1)) a0_0 a0_1 a0_2 a0_3 a0_4 l0_5)) else (none)) else (none)) else (impl_BatchValid.l0 k3 l0_5 (l0_5.length:Int) (wrap64 (x54_3+1)) a0_0 a0_1 a0_2 a0_3 a0_4 l0_5)) else (some false))=some r:=H;have A35:=zzm A350;clear A350;by_cases c36:t263=true
           ·
            subst c36;have H1:(if x54_3 > 0 then (if 0≤(wrap64 (x54_3 - 1)) then (if (wrap64 (x54_3 - 1)) < (l0_5.length:Int) then (if ((rd_T34 l0_5 (wrap64 (x54_3 - 1))).f0) ≥ ((rd_T34 l0_5 x54_3).f0) then (some false) else (impl_BatchValid.l0 k3 l0_5 (l0_5.length:Int) (wrap64 (x54_3+1)) a0_0 a0_1 a0_2 a0_3 a0_4 l0_5)) else (none)) else (none)) else (impl_BatchValid.l0 k3 l0_5 (l0_5.length:Int) (wrap64 (x54_3+1)) a0_0 a0_1 a0_2 a0_3 a0_4 l0_5))=some r:=by rw [if_pos rfl] at H;exact H
            clear H;have H:=H1;clear H1;by_cases c37:x54_3 > 0
            ·
             rw [if_pos c37] at H;have c37b0:decide (0 < x54_3)=true:=decide_eq_true c37;clear c37;obtain ⟨ji38,hji38⟩:∃ j_:Int,(wrap64 (x54_3 - 1))=j_:=⟨_,rfl⟩;replace H:(if 0≤(ji38) then (if (ji38) < (l0_5.length:Int) then (if ((rd_T34 l0_5 (ji38)).f0) ≥ ((rd_T34 l0_5 x54_3).f0) then (some false) else (impl_BatchValid.l0 k3 l0_5 (l0_5.length:Int) (wrap64 (x54_3+1)) a0_0 a0_1 a0_2 a0_3 a0_4 l0_5)) else (none)) else (none))=some r:=by first|(rw [hji38] at H;exact H)|(simp only [hji38] at H ⊢;exact H)
             (try rw [hji38] at A35);have hji38w:(IntKind.i64.wrap (x54_3 - 1))=ji38:=(i64_w _).trans hji38;by_cases c39 : 0≤(ji38)
             ·
              rw [if_pos c39] at H;have c39b0:decide (0≤(ji38))=true:=decide_eq_true c39;clear c39;by_cases c40:(ji38) < (l0_5.length:Int)
              ·
               rw [if_pos c40] at H;have c40b0:decide ((ji38) < (l0_5.length:Int))=true:=decide_eq_true c40;clear c40;by_cases c41:((rd_T34 l0_5 (ji38)).f0) ≥ ((rd_T34 l0_5 x54_3).f0)
               ·
                rw [if_pos c41] at H;have c41b0:decide (((rd_T34 l0_5 x54_3).f0)≤((rd_T34 l0_5 (ji38)).f0))=true:=decide_eq_true c41;clear c41;obtain rfl:=Option.some.inj H;have p261 : 0≤(x54_3:Int):=zzt;have q261:x54_3 < (l0_5.length:Int):=zzt;obtain ⟨ad261,A261_3,c261_3,A261_5,c261_5,e261,hx261_0,hx261_1,hx261_2,hx261_3,hx261_4,hx261_5,hl261_3,hi261_3,hl261_5,hi261_5⟩:=at_T34 HR0_5.out x54_3 p261 q261;cases e261;replace hx261_0:=zzx HB.out hx261_0;replace hx261_1:=zzx HB.out hx261_1;replace hx261_2:=zzx HB.out hx261_2;replace hx261_3:=zzx HB.out hx261_3;replace hx261_4:=zzx HB.out hx261_4;replace hx261_5:=zzx HB.out hx261_5;have HR261_3:=zzm hi261_3;have HC261_3:=zzm hl261_3;clear hi261_3 hl261_3;have HR261_5:=zzm hi261_5;have HC261_5:=zzm hl261_5;clear hi261_5 hl261_5;replace p261:=eq_true p261;replace q261:=eq_true q261;try go_wp2_with (first|((with_reducible refine gate_dst (N:=4) rfl ?_);(try (refine gate_guard (by rfl) ?_;dsimp only));refine box_event ?hg (N:=4) ?hd (cs:=#[.int .i64 0,.int .i64 0,.bool false,.slice none 0 0,.bool false,.slice none 0 0]) (t:=34) ?hr ?_;(case hd=>rfl);(case hg=>rfl);(case hr=>first|(go_simp;done)|(go_simp;rfl));intro gb262 hg w42 hbox hb;have n0_:=zzm (zzh (g:=gb256) (o:=.cells #[.bool a0_0,.bool a0_1,.int .i64 a0_2,.int .i64 a0_3,.int .i64 a0_4,.slice (some ad261) l0_5.length c0_5] 27 (0,0)) (zzE BK256.out) hb);have n1_:=zzm (zzp zzh2 hb);have n2_:=zzm (hbox);have n3_:=zzm ((by rw [hg];exact (zzo zzh2):w.heap.size≤gb262));have n4_:=zzm ((by rw [hg];exact (zzo zzh2):w.heap.size≤gb262));have n5_:=zzm ((by rw [hg];exact Nat.ne_of_lt (blk_lt (g:=gb256) (o:=.cells #[.bool a0_0,.bool a0_1,.int .i64 a0_2,.int .i64 a0_3,.int .i64 a0_4,.slice (some ad261) l0_5.length c0_5] 27 (0,0)) (zzE BK256.out)):gb256≠gb262));have n6_:=zzm ((by rw [hg];exact Nat.ne_of_gt (blk_lt (g:=gb256) (o:=.cells #[.bool a0_0,.bool a0_1,.int .i64 a0_2,.int .i64 a0_3,.int .i64 a0_4,.slice (some ad261) l0_5.length c0_5] 27 (0,0)) (zzE BK256.out)):gb262≠gb256));clear BK256 HB;have BK256:=n0_;have HB:=n1_;have BK262:=n2_;have GW262:=n3_;have GE262:=n4_;have NB256_262:=n5_;have NB262_256:=n6_;clear n0_ n1_ n2_ n3_ n4_ n5_ n6_ hb hbox hg;have hnb43:=NB262_256.out;have hnc43:=NB256_262.out;obtain ⟨hcz44_0,hcz44_1,hcz44_2,hcz44_3,hcz44_4,hcz44_5,hfz44_0,hfz44_1,hfz44_2,hfz44_3,hfz44_4,hfz44_5⟩:=zzc6 BK262.out))
                have n0_:Aside0 (((((((w42.setCell ⟨gb262,0,none⟩ (.int .i64 ((rd_T34 l0_5 x54_3).f0))).setCell ⟨gb262,1,none⟩ (.int .i64 ((rd_T34 l0_5 x54_3).f1))).setCell ⟨gb262,2,none⟩ (.bool ((rd_T34 l0_5 x54_3).f2))).setCell ⟨gb262,3,none⟩ (.slice A261_3 ((rd_T34 l0_5 x54_3).f3).length c261_3)).setCell ⟨gb262,4,none⟩ (.bool ((rd_T34 l0_5 x54_3).f4))).setCell ⟨gb262,5,none⟩ (.slice A261_5 ((rd_T34 l0_5 x54_3).f5).length c261_5)).heap[gb256]? = some (.cells #[.bool a0_0,.bool a0_1,.int .i64 a0_2,.int .i64 a0_3,.int .i64 a0_4,.slice (some ad261) l0_5.length c0_5] 27 (0,0))):=⟨by (with_reducible repeat (first|apply zzf|apply zzg|apply zze));refine zzj ?_ NB256_262.out _;(with_reducible repeat (first|apply zzf|apply zzg|apply zze));refine zzj ?_ NB256_262.out _;(with_reducible repeat (first|apply zzf|apply zzg|apply zze));refine zzj ?_ NB256_262.out _;(with_reducible repeat (first|apply zzf|apply zzg|apply zze));refine zzj ?_ NB256_262.out _;(with_reducible repeat (first|apply zzf|apply zzg|apply zze));refine zzj ?_ NB256_262.out _;(with_reducible repeat (first|apply zzf|apply zzg|apply zze));refine zzj ?_ NB256_262.out _;(with_reducible repeat (first|apply zzf|apply zzg|apply zze));exact BK256.out⟩;have n1_:Aside0 (((((((w42.setCell ⟨gb262,0,none⟩ (.int .i64 ((rd_T34 l0_5 x54_3).f0))).setCell ⟨gb262,1,none⟩ (.int .i64 ((rd_T34 l0_5 x54_3).f1))).setCell ⟨gb262,2,none⟩ (.bool ((rd_T34 l0_5 x54_3).f2))).setCell ⟨gb262,3,none⟩ (.slice A261_3 ((rd_T34 l0_5 x54_3).f3).length c261_3)).setCell ⟨gb262,4,none⟩ (.bool ((rd_T34 l0_5 x54_3).f4))).setCell ⟨gb262,5,none⟩ (.slice A261_5 ((rd_T34 l0_5 x54_3).f5).length c261_5)).heap[gb262]? = some (.cells #[.int .i64 ((rd_T34 l0_5 x54_3).f0),.int .i64 ((rd_T34 l0_5 x54_3).f1),.bool ((rd_T34 l0_5 x54_3).f2),.slice A261_3 ((rd_T34 l0_5 x54_3).f3).length c261_3,.bool ((rd_T34 l0_5 x54_3).f4),.slice A261_5 ((rd_T34 l0_5 x54_3).f5).length c261_5] 34 (0,0))):=⟨by (with_reducible repeat (first|apply zzf|apply zzg|apply zze));refine zzi (cs:=#[.int .i64 ((rd_T34 l0_5 x54_3).f0),.int .i64 ((rd_T34 l0_5 x54_3).f1),.bool ((rd_T34 l0_5 x54_3).f2),.slice A261_3 ((rd_T34 l0_5 x54_3).f3).length c261_3,.bool ((rd_T34 l0_5 x54_3).f4),.slice none 0 0]) ?_ 5 _ rfl;(with_reducible repeat (first|apply zzf|apply zzg|apply zze));refine zzi (cs:=#[.int .i64 ((rd_T34 l0_5 x54_3).f0),.int .i64 ((rd_T34 l0_5 x54_3).f1),.bool ((rd_T34 l0_5 x54_3).f2),.slice A261_3 ((rd_T34 l0_5 x54_3).f3).length c261_3,.bool false,.slice none 0 0]) ?_ 4 _ rfl;(with_reducible repeat (first|apply zzf|apply zzg|apply zze));refine zzi (cs:=#[.int .i64 ((rd_T34 l0_5 x54_3).f0),.int .i64 ((rd_T34 l0_5 x54_3).f1),.bool ((rd_T34 l0_5 x54_3).f2),.slice none 0 0,.bool false,.slice none 0 0]) ?_ 3 _ rfl;(with_reducible repeat (first|apply zzf|apply zzg|apply zze));refine zzi (cs:=#[.int .i64 ((rd_T34 l0_5 x54_3).f0),.int .i64 ((rd_T34 l0_5 x54_3).f1),.bool false,.slice none 0 0,.bool false,.slice none 0 0]) ?_ 2 _ rfl;(with_reducible repeat (first|apply zzf|apply zzg|apply zze));refine zzi (cs:=#[.int .i64 ((rd_T34 l0_5 x54_3).f0),.int .i64 0,.bool false,.slice none 0 0,.bool false,.slice none 0 0]) ?_ 1 _ rfl;(with_reducible repeat (first|apply zzf|apply zzg|apply zze));refine zzi (cs:=#[.int .i64 0,.int .i64 0,.bool false,.slice none 0 0,.bool false,.slice none 0 0]) ?_ 0 _ rfl;(with_reducible repeat (first|apply zzf|apply zzg|apply zze));exact BK262.out⟩;have n2_:Aside0 (Below w.heap.size w ((((((w42.setCell ⟨gb262,0,none⟩ (.int .i64 ((rd_T34 l0_5 x54_3).f0))).setCell ⟨gb262,1,none⟩ (.int .i64 ((rd_T34 l0_5 x54_3).f1))).setCell ⟨gb262,2,none⟩ (.bool ((rd_T34 l0_5 x54_3).f2))).setCell ⟨gb262,3,none⟩ (.slice A261_3 ((rd_T34 l0_5 x54_3).f3).length c261_3)).setCell ⟨gb262,4,none⟩ (.bool ((rd_T34 l0_5 x54_3).f4))).setCell ⟨gb262,5,none⟩ (.slice A261_5 ((rd_T34 l0_5 x54_3).f5).length c261_5))):=⟨by repeat (first|(with_reducible first|exact HB.out|apply zza|apply zzb|apply zzc|refine zzd ?_ GE256.out|refine zzd ?_ GE262.out)|exact HB.out)⟩;(try clear BK256);(try clear BK262);(try clear HB);generalize ((((((w42.setCell ⟨gb262,0,none⟩ (.int .i64 ((rd_T34 l0_5 x54_3).f0))).setCell ⟨gb262,1,none⟩ (.int .i64 ((rd_T34 l0_5 x54_3).f1))).setCell ⟨gb262,2,none⟩ (.bool ((rd_T34 l0_5 x54_3).f2))).setCell ⟨gb262,3,none⟩ (.slice A261_3 ((rd_T34 l0_5 x54_3).f3).length c261_3)).setCell ⟨gb262,4,none⟩ (.bool ((rd_T34 l0_5 x54_3).f4))).setCell ⟨gb262,5,none⟩ (.slice A261_5 ((rd_T34 l0_5 x54_3).f5).length c261_5))=w45 at n0_ n1_ n2_ ⊢;have BK256:=n0_;have BK262:=n1_;have HB:=n2_;clear n0_ n1_ n2_;have n0_:=zzm (zzg BK256.out);have n1_:=zzm (zzg BK262.out);have n2_:=zzm (zzc HB.out);clear BK256 BK262 HB;have BK256:=n0_;have BK262:=n1_;have HB:=n2_;clear n0_ n1_ n2_;have p264 : 0≤((ji38):Int):=zzt;have q264:(ji38) < (l0_5.length:Int):=zzt;obtain ⟨ad264,A264_3,c264_3,A264_5,c264_5,e264,hx264_0,hx264_1,hx264_2,hx264_3,hx264_4,hx264_5,hl264_3,hi264_3,hl264_5,hi264_5⟩:=at_T34 HR0_5.out (ji38) p264 q264;have hw264_5:=hx264_5;have hw264_4:=hx264_4;have hw264_3:=hx264_3;have hw264_2:=hx264_2;have hw264_1:=hx264_1;have hw264_0:=hx264_0;obtain rfl:ad261=ad264:=(by injection e264);replace hx264_0:=zzx HB.out hx264_0;replace hx264_1:=zzx HB.out hx264_1;replace hx264_2:=zzx HB.out hx264_2;replace hx264_3:=zzx HB.out hx264_3;replace hx264_4:=zzx HB.out hx264_4;replace hx264_5:=zzx HB.out hx264_5;have HR264_3:=zzm hi264_3;have HC264_3:=zzm hl264_3;clear hi264_3 hl264_3;have HR264_5:=zzm hi264_5;have HC264_5:=zzm hl264_5;clear hi264_5 hl264_5;replace p264:=eq_true p264;replace q264:=eq_true q264;refine start_ (n:=19) (S:=fun w'=>w'.cell? ⟨gb262,0,none⟩=some (.int .i64 ((rd_T34 l0_5 x54_3).f0))∧w'.cell? ⟨gb262,1,none⟩=some (.int .i64 ((rd_T34 l0_5 x54_3).f1))∧w'.cell? ⟨gb262,2,none⟩=some (.bool ((rd_T34 l0_5 x54_3).f2))∧w'.cell? ⟨gb262,3,none⟩=some (.slice A261_3 ((rd_T34 l0_5 x54_3).f3).length c261_3)∧w'.cell? ⟨gb262,4,none⟩=some (.bool ((rd_T34 l0_5 x54_3).f4))∧w'.cell? ⟨gb262,5,none⟩=some (.slice A261_5 ((rd_T34 l0_5 x54_3).f5).length c261_5)∧w'.cell? ⟨gb256,0,none⟩=some (.bool a0_0)∧w'.cell? ⟨gb256,1,none⟩=some (.bool a0_1)∧w'.cell? ⟨gb256,2,none⟩=some (.int .i64 a0_2)∧w'.cell? ⟨gb256,3,none⟩=some (.int .i64 a0_3)∧w'.cell? ⟨gb256,4,none⟩=some (.int .i64 a0_4)∧w'.cell? ⟨gb256,5,none⟩=some (.slice (some ad261) l0_5.length c0_5)∧w'.cell? (ad261.add (((ji38)).toNat * 6))=some (.int .i64 ((rd_T34 l0_5 (ji38)).f0))∧w'.cell? ⟨(ad261.add (((ji38)).toNat * 6)).block,(ad261.add (((ji38)).toNat * 6)).off+1,none⟩=some (.int .i64 ((rd_T34 l0_5 (ji38)).f1))∧w'.cell? ⟨(ad261.add (((ji38)).toNat * 6)).block,(ad261.add (((ji38)).toNat * 6)).off+2,none⟩=some (.bool ((rd_T34 l0_5 (ji38)).f2))∧w'.cell? ⟨(ad261.add (((ji38)).toNat * 6)).block,(ad261.add (((ji38)).toNat * 6)).off+3,none⟩=some (.slice A264_3 ((rd_T34 l0_5 (ji38)).f3).length c264_3)∧w'.cell? ⟨(ad261.add (((ji38)).toNat * 6)).block,(ad261.add (((ji38)).toNat * 6)).off+4,none⟩=some (.bool ((rd_T34 l0_5 (ji38)).f4))∧w'.cell? ⟨(ad261.add (((ji38)).toNat * 6)).block,(ad261.add (((ji38)).toNat * 6)).off+5,none⟩=some (.slice A264_5 ((rd_T34 l0_5 (ji38)).f5).length c264_5)) (ds:=[]) (zzB 19 0) (by kernel_rfl) rfl rfl ⟨(zzk BK262.out 0).trans rfl,(zzk BK262.out 1).trans rfl,(zzk BK262.out 2).trans rfl,(zzk BK262.out 3).trans rfl,(zzk BK262.out 4).trans rfl,(zzk BK262.out 5).trans rfl,(zzk BK256.out 0).trans rfl,(zzk BK256.out 1).trans rfl,(zzk BK256.out 2).trans rfl,(zzk BK256.out 3).trans rfl,(zzk BK256.out 4).trans rfl,(zzk BK256.out 5).trans rfl,(zzx HB.out hw264_0),(zzx HB.out hw264_1),(zzx HB.out hw264_2),(zzx HB.out hw264_3),(zzx HB.out hw264_4),(zzx HB.out hw264_5)⟩ (fun hHeld=>?_);refine with_tabW impl_BatchValid.tab11 impl_BatchValid.bits11 (fun HT_ HW_=>?_);generalize w45.drew=w46 at BK256 BK262 HB HR264_3 HR264_5 hx264_0 hx264_1 hx264_2 hx264_3 hx264_4 hx264_5 hHeld ⊢;refine take_ (i:=0) (N:=some 59) (v:=?_) (a':=?_) (zzB 19 1) rfl rfl (take_ofW HT_.out HW_.out (by kernel_rfl)) (fun _ _ _ h=>h) (Or.inl ⟨by rfl,?_⟩) hHeld ?_ ?_;rotate_left
                ·
                 rintro w' ⟨s0,s1,s2,s3,s4,s5,s6,s7,s8,s9,s10,s11,s12,s13,s14,s15,s16,s17⟩;go_simp;with_reducible rfl
                rotate_left
                ·
                 simp only [Act.put,zzq,zzr,zzs,i64_w,i32_w];rfl
                refine one_ (i:=1) (N:=some 60) (zzB 19 3) rfl rfl (one_of HT_.out (by kernel_rfl)) (by decide) (fun K hK=>?_);refine goes_ Try.func58 (by kernel_rfl) rfl #[.agg #[.int .i64 ((rd_T34 l0_5 x54_3).f0),.int .i64 ((rd_T34 l0_5 x54_3).f1),.bool ((rd_T34 l0_5 x54_3).f2),.slice A261_3 ((rd_T34 l0_5 x54_3).f3).length c261_3,.bool ((rd_T34 l0_5 x54_3).f4),.slice A261_5 ((rd_T34 l0_5 x54_3).f5).length c261_5]] (by rfl) rfl rfl zzM2 ?_;with_reducible refine (impl_RecordValid.calls k3 ((rd_T34 l0_5 x54_3).f0) ((rd_T34 l0_5 x54_3).f1) ((rd_T34 l0_5 x54_3).f2) _ _ ((rd_T34 l0_5 x54_3).f3) ((rd_T34 l0_5 x54_3).f4) _ _ ((rd_T34 l0_5 x54_3).f5) true _ ?side1 ?side2 ?side3 ?side4 A35.out).mono ?_;(case side1=>repeat (first|exact (Kd.C_below HR261_3.out HB.out)|(with_reducible refine Kd.C_alloc ?_ _)|(with_reducible refine Kd.C_drewN ?_ _)|(with_reducible refine Kd.C_drew ?_)));(case side2=>exact HC261_3.out);(case side3=>repeat (first|exact (Kd.C_below HR261_5.out HB.out)|(with_reducible refine Kd.C_alloc ?_ _)|(with_reducible refine Kd.C_drewN ?_ _)|(with_reducible refine Kd.C_drew ?_)));(case side4=>exact HC261_5.out);rintro e w47 ⟨rfl,hb⟩;refine ⟨_,rfl,?_⟩;have n0_:=zzm (zzh (g:=gb256) (o:=.cells #[.bool a0_0,.bool a0_1,.int .i64 a0_2,.int .i64 a0_3,.int .i64 a0_4,.slice (some ad261) l0_5.length c0_5] 27 (0,0)) (zzE BK256.out) hb);have n1_:=zzm (zzh (g:=gb262) (o:=.cells #[.int .i64 ((rd_T34 l0_5 x54_3).f0),.int .i64 ((rd_T34 l0_5 x54_3).f1),.bool ((rd_T34 l0_5 x54_3).f2),.slice A261_3 ((rd_T34 l0_5 x54_3).f3).length c261_3,.bool ((rd_T34 l0_5 x54_3).f4),.slice A261_5 ((rd_T34 l0_5 x54_3).f5).length c261_5] 34 (0,0)) (zzE BK262.out) hb);have n2_:=zzm (zzp zzh2 hb);clear BK256 BK262 HB;have BK256:=n0_;have BK262:=n1_;have HB:=n2_;clear n0_ n1_ n2_;(try clear hb);(try clear hb2);(try clear hk);(try clear hi);refine hK.out _ _ ⟨(zzk BK262.out 0).trans rfl,(zzk BK262.out 1).trans rfl,(zzk BK262.out 2).trans rfl,(zzk BK262.out 3).trans rfl,(zzk BK262.out 4).trans rfl,(zzk BK262.out 5).trans rfl,(zzk BK256.out 0).trans rfl,(zzk BK256.out 1).trans rfl,(zzk BK256.out 2).trans rfl,(zzk BK256.out 3).trans rfl,(zzk BK256.out 4).trans rfl,(zzk BK256.out 5).trans rfl,(zzx HB.out hw264_0),(zzx HB.out hw264_1),(zzx HB.out hw264_2),(zzx HB.out hw264_3),(zzx HB.out hw264_4),(zzx HB.out hw264_5)⟩ (fun hHeld=>?_);clear hK K;refine norm_ (a':=?_) ?_ ?_;rotate_left
                ·
                 show Act.put _ (some 60) _ = _;simp only [Act.put,zzq,zzr,zzs,i64_w,i32_w];rfl
                refine pure_ (i:=2) (N:=some 61) (v:=?_) (a':=?_) (zzB 19 7) rfl rfl (zzA2 HT_.out) (fun _ _ _ h=>h) (Or.inl ⟨by rfl,?_⟩) ?_ ?_;rotate_left
                ·
                 intro w';go_simp;with_reducible rfl
                rotate_left
                ·
                 simp only [Act.put,zzq,zzr,zzs,i64_w,i32_w];rfl
                refine pure_ (i:=3) (N:=some 62) (v:=?_) (a':=?_) (zzB 19 15) rfl rfl (zzA2 HT_.out) (fun _ _ _ h=>h) (Or.inl ⟨by rfl,?_⟩) ?_ ?_;rotate_left
                ·
                 intro w';go_simp;with_reducible rfl
                rotate_left
                ·
                 simp only [Act.put,zzq,zzr,zzs,i64_w,i32_w];rfl
                refine pure_ (i:=4) (N:=some 63) (v:=?_) (a':=?_) (zzB 19 31) rfl rfl (zzA2 HT_.out) (fun _ _ _ h=>h) (Or.inl ⟨by rfl,?_⟩) ?_ ?_;rotate_left
                ·
                 intro w';go_simp;with_reducible rfl
                rotate_left
                ·
                 simp only [Act.put,zzq,zzr,zzs,i64_w,i32_w];rfl
                refine pure_ (i:=5) (N:=some 64) (v:=?_) (a':=?_) (zzB 19 63) rfl rfl (zzA2 HT_.out) (fun _ _ _ h=>h) (Or.inl ⟨by rfl,?_⟩) ?_ ?_;rotate_left
                ·
                 intro w';go_simp;with_reducible rfl
                rotate_left
                ·
                 simp only [Act.put,zzq,zzr,zzs,i64_w,i32_w];rfl
                refine pure_ (i:=6) (N:=some 65) (v:=?_) (a':=?_) (zzB 19 127) rfl rfl (zzA2 HT_.out) (fun _ _ _ h=>h) (Or.inl ⟨by rfl,?_⟩) ?_ ?_;rotate_left
                ·
                 intro w';go_simp;with_reducible rfl
                rotate_left
                ·
                 simp only [Act.put,zzq,zzr,zzs,i64_w,i32_w];rfl
                refine pure_ (i:=7) (N:=some 66) (v:=?_) (a':=?_) (zzB 19 255) rfl rfl (zzA2 HT_.out) (fun _ _ _ h=>h) (Or.inl ⟨by rfl,?_⟩) ?_ ?_;rotate_left
                ·
                 intro w';go_simp;with_reducible rfl
                rotate_left
                ·
                 simp only [Act.put,zzq,zzr,zzs,i64_w,i32_w];rfl
                refine pure_ (i:=9) (N:=some 68) (v:=?_) (a':=?_) (zzB 19 767) rfl rfl (zzA2 HT_.out) (fun _ _ _ h=>h) (Or.inl ⟨by rfl,?_⟩) ?_ ?_;rotate_left
                ·
                 intro w';go_simp;with_reducible rfl
                rotate_left
                ·
                 simp only [Act.put,zzq,zzr,zzs,i64_w,i32_w];rfl
                refine pure_ (i:=10) (N:=some 69) (v:=?_) (a':=?_) (zzB 19 1791) rfl rfl (zzA2 HT_.out) (fun _ _ _ h=>h) (Or.inl ⟨by rfl,?_⟩) ?_ ?_;rotate_left
                ·
                 intro w';go_simp;with_reducible rfl
                rotate_left
                ·
                 simp only [Act.put,zzq,zzr,zzs,i64_w,i32_w];rfl
                refine pure_ (i:=14) (N:=some 73) (v:=?_) (a':=?_) (zzB 19 18175) rfl rfl (zzA2 HT_.out) (fun _ _ _ h=>h) (Or.inl ⟨by rfl,?_⟩) ?_ ?_;rotate_left
                ·
                 intro w';go_simp;with_reducible rfl
                rotate_left
                ·
                 simp only [Act.put,zzq,zzr,zzs,i64_w,i32_w];rfl
                refine take_ (i:=8) (N:=some 67) (v:=?_) (a':=?_) (zzB 19 18431) rfl rfl (take_ofW HT_.out HW_.out (by kernel_rfl)) (fun _ _ _ h=>h) (Or.inl ⟨by rfl,?_⟩) hHeld ?_ ?_;rotate_left
                ·
                 rintro w' ⟨s0,s1,s2,s3,s4,s5,s6,s7,s8,s9,s10,s11,s12,s13,s14,s15,s16,s17⟩;go_simp;with_reducible rfl
                rotate_left
                ·
                 simp only [Act.put,zzq,zzr,zzs,i64_w,i32_w];rfl
                refine pure_ (i:=11) (N:=some 70) (v:=?_) (a':=?_) (zzB 19 20479) rfl rfl (zzA2 HT_.out) (fun _ _ _ h=>h) (Or.inl ⟨by rfl,?_⟩) ?_ ?_;rotate_left
                ·
                 intro w';go_simp;with_reducible rfl
                rotate_left
                ·
                 simp only [Act.put,zzq,zzr,zzs,i64_w,i32_w];rfl
                refine pure_ (i:=12) (N:=some 71) (v:=?_) (a':=?_) (zzB 19 24575) rfl rfl (zzA2 HT_.out) (fun _ _ _ h=>h) (Or.inl ⟨by rfl,?_⟩) ?_ ?_;rotate_left
                ·
                 intro w';go_simp;with_reducible rfl
                rotate_left
                ·
                 simp only [Act.put,zzq,zzr,zzs,i64_w,i32_w];rfl
                refine take_ (i:=13) (N:=some 72) (v:=?_) (a':=?_) (zzB 19 32767) rfl rfl (take_ofW HT_.out HW_.out (by kernel_rfl)) (fun _ _ _ h=>h) (Or.inl ⟨by rfl,?_⟩) hHeld ?_ ?_;rotate_left
                ·
                 rintro w' ⟨s0,s1,s2,s3,s4,s5,s6,s7,s8,s9,s10,s11,s12,s13,s14,s15,s16,s17⟩;go_simp;with_reducible rfl
                rotate_left
                ·
                 simp only [Act.put,zzq,zzr,zzs,i64_w,i32_w];rfl
                refine take_ (i:=15) (N:=some 74) (v:=?_) (a':=?_) (zzB 19 65535) rfl rfl (take_ofW HT_.out HW_.out (by kernel_rfl)) (fun _ _ _ h=>h) (Or.inl ⟨by rfl,?_⟩) hHeld ?_ ?_;rotate_left
                ·
                 rintro w' ⟨s0,s1,s2,s3,s4,s5,s6,s7,s8,s9,s10,s11,s12,s13,s14,s15,s16,s17⟩;go_simp;with_reducible rfl
                rotate_left
                ·
                 simp only [Act.put,zzq,zzr,zzs,i64_w,i32_w];rfl
                refine pure_ (i:=16) (N:=some 75) (v:=?_) (a':=?_) (zzB 19 131071) rfl rfl (zzA2 HT_.out) (fun _ _ _ h=>h) (Or.inl ⟨by rfl,?_⟩) ?_ ?_;rotate_left
                ·
                 intro w';go_simp;with_reducible rfl
                rotate_left
                ·
                 simp only [Act.put,zzq,zzr,zzs,i64_w,i32_w];rfl
                refine pure_ (i:=17) (N:=some 76) (v:=?_) (a':=?_) (zzB 19 262143) rfl rfl (zzA2 HT_.out) (fun _ _ _ h=>h) (Or.inl ⟨by rfl,?_⟩) ?_ ?_;rotate_left
                ·
                 intro w';go_simp;with_reducible rfl
                rotate_left
                ·
                 simp only [Act.put,zzq,zzr,zzs,i64_w,i32_w];rfl
                refine pure_ (i:=18) (N:=some 77) (v:=?_) (a':=?_) (zzB 19 524287) rfl rfl (zzA2 HT_.out) (fun _ _ _ h=>h) (Or.inl ⟨by rfl,?_⟩) ?_ ?_;rotate_left
                ·
                 intro w';go_simp;with_reducible rfl
                rotate_left
                ·
                 simp only [Act.put,zzq,zzr,zzs,i64_w,i32_w];rfl
                refine done_ (done_of HT_.out (by kernel_rfl)) ?_;try go_wp2
                go_ret;exact ⟨by first|rfl|(simp [errW_none,errW_some] <;> rfl)|(simp only [← hji38];first|rfl|(simp [errW_none,errW_some] <;> rfl))|(simp [*,errW_none,errW_some] <;> rfl),by repeat (first|(with_reducible first|exact HB.out|apply zza|apply zzb|apply zzc|refine zzd ?_ GE256.out|refine zzd ?_ GE262.out)|exact HB.out)⟩
               ·
                rw [if_neg c41] at H;have c41b0:decide (((rd_T34 l0_5 x54_3).f0)≤((rd_T34 l0_5 (ji38)).f0))=false:=decide_eq_false c41;clear c41;have H':=zzm H;clear H;have p261 : 0≤(x54_3:Int):=zzt;have q261:x54_3 < (l0_5.length:Int):=zzt;obtain ⟨ad261,A261_3,c261_3,A261_5,c261_5,e261,hx261_0,hx261_1,hx261_2,hx261_3,hx261_4,hx261_5,hl261_3,hi261_3,hl261_5,hi261_5⟩:=at_T34 HR0_5.out x54_3 p261 q261;cases e261;replace hx261_0:=zzx HB.out hx261_0;replace hx261_1:=zzx HB.out hx261_1;replace hx261_2:=zzx HB.out hx261_2;replace hx261_3:=zzx HB.out hx261_3;replace hx261_4:=zzx HB.out hx261_4;replace hx261_5:=zzx HB.out hx261_5;have HR261_3:=zzm hi261_3;have HC261_3:=zzm hl261_3;clear hi261_3 hl261_3;have HR261_5:=zzm hi261_5;have HC261_5:=zzm hl261_5;clear hi261_5 hl261_5;replace p261:=eq_true p261;replace q261:=eq_true q261;try go_wp2_with (first|((with_reducible refine gate_dst (N:=4) rfl ?_);(try (refine gate_guard (by rfl) ?_;dsimp only));refine box_event ?hg (N:=4) ?hd (cs:=#[.int .i64 0,.int .i64 0,.bool false,.slice none 0 0,.bool false,.slice none 0 0]) (t:=34) ?hr ?_;(case hd=>rfl);(case hg=>rfl);(case hr=>first|(go_simp;done)|(go_simp;rfl));intro gb262 hg w48 hbox hb;have n0_:=zzm (zzh (g:=gb256) (o:=.cells #[.bool a0_0,.bool a0_1,.int .i64 a0_2,.int .i64 a0_3,.int .i64 a0_4,.slice (some ad261) l0_5.length c0_5] 27 (0,0)) (zzE BK256.out) hb);have n1_:=zzm (zzp zzh2 hb);have n2_:=zzm (hbox);have n3_:=zzm ((by rw [hg];exact (zzo zzh2):w.heap.size≤gb262));have n4_:=zzm ((by rw [hg];exact (zzo zzh2):w.heap.size≤gb262));have n5_:=zzm ((by rw [hg];exact Nat.ne_of_lt (blk_lt (g:=gb256) (o:=.cells #[.bool a0_0,.bool a0_1,.int .i64 a0_2,.int .i64 a0_3,.int .i64 a0_4,.slice (some ad261) l0_5.length c0_5] 27 (0,0)) (zzE BK256.out)):gb256≠gb262));have n6_:=zzm ((by rw [hg];exact Nat.ne_of_gt (blk_lt (g:=gb256) (o:=.cells #[.bool a0_0,.bool a0_1,.int .i64 a0_2,.int .i64 a0_3,.int .i64 a0_4,.slice (some ad261) l0_5.length c0_5] 27 (0,0)) (zzE BK256.out)):gb262≠gb256));clear BK256 HB;have BK256:=n0_;have HB:=n1_;have BK262:=n2_;have GW262:=n3_;have GE262:=n4_;have NB256_262:=n5_;have NB262_256:=n6_;clear n0_ n1_ n2_ n3_ n4_ n5_ n6_ hb hbox hg;have hnb49:=NB262_256.out;have hnc49:=NB256_262.out;obtain ⟨hcz50_0,hcz50_1,hcz50_2,hcz50_3,hcz50_4,hcz50_5,hfz50_0,hfz50_1,hfz50_2,hfz50_3,hfz50_4,hfz50_5⟩:=zzc6 BK262.out))
                have n0_:Aside0 (((((((w48.setCell ⟨gb262,0,none⟩ (.int .i64 ((rd_T34 l0_5 x54_3).f0))).setCell ⟨gb262,1,none⟩ (.int .i64 ((rd_T34 l0_5 x54_3).f1))).setCell ⟨gb262,2,none⟩ (.bool ((rd_T34 l0_5 x54_3).f2))).setCell ⟨gb262,3,none⟩ (.slice A261_3 ((rd_T34 l0_5 x54_3).f3).length c261_3)).setCell ⟨gb262,4,none⟩ (.bool ((rd_T34 l0_5 x54_3).f4))).setCell ⟨gb262,5,none⟩ (.slice A261_5 ((rd_T34 l0_5 x54_3).f5).length c261_5)).heap[gb256]? = some (.cells #[.bool a0_0,.bool a0_1,.int .i64 a0_2,.int .i64 a0_3,.int .i64 a0_4,.slice (some ad261) l0_5.length c0_5] 27 (0,0))):=⟨by (with_reducible repeat (first|apply zzf|apply zzg|apply zze));refine zzj ?_ NB256_262.out _;(with_reducible repeat (first|apply zzf|apply zzg|apply zze));refine zzj ?_ NB256_262.out _;(with_reducible repeat (first|apply zzf|apply zzg|apply zze));refine zzj ?_ NB256_262.out _;(with_reducible repeat (first|apply zzf|apply zzg|apply zze));refine zzj ?_ NB256_262.out _;(with_reducible repeat (first|apply zzf|apply zzg|apply zze));refine zzj ?_ NB256_262.out _;(with_reducible repeat (first|apply zzf|apply zzg|apply zze));refine zzj ?_ NB256_262.out _;(with_reducible repeat (first|apply zzf|apply zzg|apply zze));exact BK256.out⟩;have n1_:Aside0 (((((((w48.setCell ⟨gb262,0,none⟩ (.int .i64 ((rd_T34 l0_5 x54_3).f0))).setCell ⟨gb262,1,none⟩ (.int .i64 ((rd_T34 l0_5 x54_3).f1))).setCell ⟨gb262,2,none⟩ (.bool ((rd_T34 l0_5 x54_3).f2))).setCell ⟨gb262,3,none⟩ (.slice A261_3 ((rd_T34 l0_5 x54_3).f3).length c261_3)).setCell ⟨gb262,4,none⟩ (.bool ((rd_T34 l0_5 x54_3).f4))).setCell ⟨gb262,5,none⟩ (.slice A261_5 ((rd_T34 l0_5 x54_3).f5).length c261_5)).heap[gb262]? = some (.cells #[.int .i64 ((rd_T34 l0_5 x54_3).f0),.int .i64 ((rd_T34 l0_5 x54_3).f1),.bool ((rd_T34 l0_5 x54_3).f2),.slice A261_3 ((rd_T34 l0_5 x54_3).f3).length c261_3,.bool ((rd_T34 l0_5 x54_3).f4),.slice A261_5 ((rd_T34 l0_5 x54_3).f5).length c261_5] 34 (0,0))):=⟨by (with_reducible repeat (first|apply zzf|apply zzg|apply zze));refine zzi (cs:=#[.int .i64 ((rd_T34 l0_5 x54_3).f0),.int .i64 ((rd_T34 l0_5 x54_3).f1),.bool ((rd_T34 l0_5 x54_3).f2),.slice A261_3 ((rd_T34 l0_5 x54_3).f3).length c261_3,.bool ((rd_T34 l0_5 x54_3).f4),.slice none 0 0]) ?_ 5 _ rfl;(with_reducible repeat (first|apply zzf|apply zzg|apply zze));refine zzi (cs:=#[.int .i64 ((rd_T34 l0_5 x54_3).f0),.int .i64 ((rd_T34 l0_5 x54_3).f1),.bool ((rd_T34 l0_5 x54_3).f2),.slice A261_3 ((rd_T34 l0_5 x54_3).f3).length c261_3,.bool false,.slice none 0 0]) ?_ 4 _ rfl;(with_reducible repeat (first|apply zzf|apply zzg|apply zze));refine zzi (cs:=#[.int .i64 ((rd_T34 l0_5 x54_3).f0),.int .i64 ((rd_T34 l0_5 x54_3).f1),.bool ((rd_T34 l0_5 x54_3).f2),.slice none 0 0,.bool false,.slice none 0 0]) ?_ 3 _ rfl;(with_reducible repeat (first|apply zzf|apply zzg|apply zze));refine zzi (cs:=#[.int .i64 ((rd_T34 l0_5 x54_3).f0),.int .i64 ((rd_T34 l0_5 x54_3).f1),.bool false,.slice none 0 0,.bool false,.slice none 0 0]) ?_ 2 _ rfl;(with_reducible repeat (first|apply zzf|apply zzg|apply zze));refine zzi (cs:=#[.int .i64 ((rd_T34 l0_5 x54_3).f0),.int .i64 0,.bool false,.slice none 0 0,.bool false,.slice none 0 0]) ?_ 1 _ rfl;(with_reducible repeat (first|apply zzf|apply zzg|apply zze));refine zzi (cs:=#[.int .i64 0,.int .i64 0,.bool false,.slice none 0 0,.bool false,.slice none 0 0]) ?_ 0 _ rfl;(with_reducible repeat (first|apply zzf|apply zzg|apply zze));exact BK262.out⟩;have n2_:Aside0 (Below w.heap.size w ((((((w48.setCell ⟨gb262,0,none⟩ (.int .i64 ((rd_T34 l0_5 x54_3).f0))).setCell ⟨gb262,1,none⟩ (.int .i64 ((rd_T34 l0_5 x54_3).f1))).setCell ⟨gb262,2,none⟩ (.bool ((rd_T34 l0_5 x54_3).f2))).setCell ⟨gb262,3,none⟩ (.slice A261_3 ((rd_T34 l0_5 x54_3).f3).length c261_3)).setCell ⟨gb262,4,none⟩ (.bool ((rd_T34 l0_5 x54_3).f4))).setCell ⟨gb262,5,none⟩ (.slice A261_5 ((rd_T34 l0_5 x54_3).f5).length c261_5))):=⟨by repeat (first|(with_reducible first|exact HB.out|apply zza|apply zzb|apply zzc|refine zzd ?_ GE256.out|refine zzd ?_ GE262.out)|exact HB.out)⟩;(try clear BK256);(try clear BK262);(try clear HB);generalize ((((((w48.setCell ⟨gb262,0,none⟩ (.int .i64 ((rd_T34 l0_5 x54_3).f0))).setCell ⟨gb262,1,none⟩ (.int .i64 ((rd_T34 l0_5 x54_3).f1))).setCell ⟨gb262,2,none⟩ (.bool ((rd_T34 l0_5 x54_3).f2))).setCell ⟨gb262,3,none⟩ (.slice A261_3 ((rd_T34 l0_5 x54_3).f3).length c261_3)).setCell ⟨gb262,4,none⟩ (.bool ((rd_T34 l0_5 x54_3).f4))).setCell ⟨gb262,5,none⟩ (.slice A261_5 ((rd_T34 l0_5 x54_3).f5).length c261_5))=w51 at n0_ n1_ n2_ ⊢;have BK256:=n0_;have BK262:=n1_;have HB:=n2_;clear n0_ n1_ n2_;have n0_:=zzm (zzg BK256.out);have n1_:=zzm (zzg BK262.out);have n2_:=zzm (zzc HB.out);clear BK256 BK262 HB;have BK256:=n0_;have BK262:=n1_;have HB:=n2_;clear n0_ n1_ n2_;have p264 : 0≤((ji38):Int):=zzt;have q264:(ji38) < (l0_5.length:Int):=zzt;obtain ⟨ad264,A264_3,c264_3,A264_5,c264_5,e264,hx264_0,hx264_1,hx264_2,hx264_3,hx264_4,hx264_5,hl264_3,hi264_3,hl264_5,hi264_5⟩:=at_T34 HR0_5.out (ji38) p264 q264;have hw264_5:=hx264_5;have hw264_4:=hx264_4;have hw264_3:=hx264_3;have hw264_2:=hx264_2;have hw264_1:=hx264_1;have hw264_0:=hx264_0;obtain rfl:ad261=ad264:=(by injection e264);replace hx264_0:=zzx HB.out hx264_0;replace hx264_1:=zzx HB.out hx264_1;replace hx264_2:=zzx HB.out hx264_2;replace hx264_3:=zzx HB.out hx264_3;replace hx264_4:=zzx HB.out hx264_4;replace hx264_5:=zzx HB.out hx264_5;have HR264_3:=zzm hi264_3;have HC264_3:=zzm hl264_3;clear hi264_3 hl264_3;have HR264_5:=zzm hi264_5;have HC264_5:=zzm hl264_5;clear hi264_5 hl264_5;replace p264:=eq_true p264;replace q264:=eq_true q264;refine start_ (n:=19) (S:=fun w'=>w'.cell? ⟨gb262,0,none⟩=some (.int .i64 ((rd_T34 l0_5 x54_3).f0))∧w'.cell? ⟨gb262,1,none⟩=some (.int .i64 ((rd_T34 l0_5 x54_3).f1))∧w'.cell? ⟨gb262,2,none⟩=some (.bool ((rd_T34 l0_5 x54_3).f2))∧w'.cell? ⟨gb262,3,none⟩=some (.slice A261_3 ((rd_T34 l0_5 x54_3).f3).length c261_3)∧w'.cell? ⟨gb262,4,none⟩=some (.bool ((rd_T34 l0_5 x54_3).f4))∧w'.cell? ⟨gb262,5,none⟩=some (.slice A261_5 ((rd_T34 l0_5 x54_3).f5).length c261_5)∧w'.cell? ⟨gb256,0,none⟩=some (.bool a0_0)∧w'.cell? ⟨gb256,1,none⟩=some (.bool a0_1)∧w'.cell? ⟨gb256,2,none⟩=some (.int .i64 a0_2)∧w'.cell? ⟨gb256,3,none⟩=some (.int .i64 a0_3)∧w'.cell? ⟨gb256,4,none⟩=some (.int .i64 a0_4)∧w'.cell? ⟨gb256,5,none⟩=some (.slice (some ad261) l0_5.length c0_5)∧w'.cell? (ad261.add (((ji38)).toNat * 6))=some (.int .i64 ((rd_T34 l0_5 (ji38)).f0))∧w'.cell? ⟨(ad261.add (((ji38)).toNat * 6)).block,(ad261.add (((ji38)).toNat * 6)).off+1,none⟩=some (.int .i64 ((rd_T34 l0_5 (ji38)).f1))∧w'.cell? ⟨(ad261.add (((ji38)).toNat * 6)).block,(ad261.add (((ji38)).toNat * 6)).off+2,none⟩=some (.bool ((rd_T34 l0_5 (ji38)).f2))∧w'.cell? ⟨(ad261.add (((ji38)).toNat * 6)).block,(ad261.add (((ji38)).toNat * 6)).off+3,none⟩=some (.slice A264_3 ((rd_T34 l0_5 (ji38)).f3).length c264_3)∧w'.cell? ⟨(ad261.add (((ji38)).toNat * 6)).block,(ad261.add (((ji38)).toNat * 6)).off+4,none⟩=some (.bool ((rd_T34 l0_5 (ji38)).f4))∧w'.cell? ⟨(ad261.add (((ji38)).toNat * 6)).block,(ad261.add (((ji38)).toNat * 6)).off+5,none⟩=some (.slice A264_5 ((rd_T34 l0_5 (ji38)).f5).length c264_5)) (ds:=[]) (zzB 19 0) (by kernel_rfl) rfl rfl ⟨(zzk BK262.out 0).trans rfl,(zzk BK262.out 1).trans rfl,(zzk BK262.out 2).trans rfl,(zzk BK262.out 3).trans rfl,(zzk BK262.out 4).trans rfl,(zzk BK262.out 5).trans rfl,(zzk BK256.out 0).trans rfl,(zzk BK256.out 1).trans rfl,(zzk BK256.out 2).trans rfl,(zzk BK256.out 3).trans rfl,(zzk BK256.out 4).trans rfl,(zzk BK256.out 5).trans rfl,(zzx HB.out hw264_0),(zzx HB.out hw264_1),(zzx HB.out hw264_2),(zzx HB.out hw264_3),(zzx HB.out hw264_4),(zzx HB.out hw264_5)⟩ (fun hHeld=>?_);refine with_tabW impl_BatchValid.tab11 impl_BatchValid.bits11 (fun HT_ HW_=>?_);generalize w51.drew=w52 at BK256 BK262 HB HR264_3 HR264_5 hx264_0 hx264_1 hx264_2 hx264_3 hx264_4 hx264_5 hHeld ⊢;refine take_ (i:=0) (N:=some 59) (v:=?_) (a':=?_) (zzB 19 1) rfl rfl (take_ofW HT_.out HW_.out (by kernel_rfl)) (fun _ _ _ h=>h) (Or.inl ⟨by rfl,?_⟩) hHeld ?_ ?_;rotate_left
                ·
                 rintro w' ⟨s0,s1,s2,s3,s4,s5,s6,s7,s8,s9,s10,s11,s12,s13,s14,s15,s16,s17⟩;go_simp;with_reducible rfl
                rotate_left
                ·
                 simp only [Act.put,zzq,zzr,zzs,i64_w,i32_w];rfl
                refine one_ (i:=1) (N:=some 60) (zzB 19 3) rfl rfl (one_of HT_.out (by kernel_rfl)) (by decide) (fun K hK=>?_);refine goes_ Try.func58 (by kernel_rfl) rfl #[.agg #[.int .i64 ((rd_T34 l0_5 x54_3).f0),.int .i64 ((rd_T34 l0_5 x54_3).f1),.bool ((rd_T34 l0_5 x54_3).f2),.slice A261_3 ((rd_T34 l0_5 x54_3).f3).length c261_3,.bool ((rd_T34 l0_5 x54_3).f4),.slice A261_5 ((rd_T34 l0_5 x54_3).f5).length c261_5]] (by rfl) rfl rfl zzM2 ?_;with_reducible refine (impl_RecordValid.calls k3 ((rd_T34 l0_5 x54_3).f0) ((rd_T34 l0_5 x54_3).f1) ((rd_T34 l0_5 x54_3).f2) _ _ ((rd_T34 l0_5 x54_3).f3) ((rd_T34 l0_5 x54_3).f4) _ _ ((rd_T34 l0_5 x54_3).f5) true _ ?side1 ?side2 ?side3 ?side4 A35.out).mono ?_;(case side1=>repeat (first|exact (Kd.C_below HR261_3.out HB.out)|(with_reducible refine Kd.C_alloc ?_ _)|(with_reducible refine Kd.C_drewN ?_ _)|(with_reducible refine Kd.C_drew ?_)));(case side2=>exact HC261_3.out);(case side3=>repeat (first|exact (Kd.C_below HR261_5.out HB.out)|(with_reducible refine Kd.C_alloc ?_ _)|(with_reducible refine Kd.C_drewN ?_ _)|(with_reducible refine Kd.C_drew ?_)));(case side4=>exact HC261_5.out);rintro e w53 ⟨rfl,hb⟩;refine ⟨_,rfl,?_⟩;have n0_:=zzm (zzh (g:=gb256) (o:=.cells #[.bool a0_0,.bool a0_1,.int .i64 a0_2,.int .i64 a0_3,.int .i64 a0_4,.slice (some ad261) l0_5.length c0_5] 27 (0,0)) (zzE BK256.out) hb);have n1_:=zzm (zzh (g:=gb262) (o:=.cells #[.int .i64 ((rd_T34 l0_5 x54_3).f0),.int .i64 ((rd_T34 l0_5 x54_3).f1),.bool ((rd_T34 l0_5 x54_3).f2),.slice A261_3 ((rd_T34 l0_5 x54_3).f3).length c261_3,.bool ((rd_T34 l0_5 x54_3).f4),.slice A261_5 ((rd_T34 l0_5 x54_3).f5).length c261_5] 34 (0,0)) (zzE BK262.out) hb);have n2_:=zzm (zzp zzh2 hb);clear BK256 BK262 HB;have BK256:=n0_;have BK262:=n1_;have HB:=n2_;clear n0_ n1_ n2_;(try clear hb);(try clear hb2);(try clear hk);(try clear hi);refine hK.out _ _ ⟨(zzk BK262.out 0).trans rfl,(zzk BK262.out 1).trans rfl,(zzk BK262.out 2).trans rfl,(zzk BK262.out 3).trans rfl,(zzk BK262.out 4).trans rfl,(zzk BK262.out 5).trans rfl,(zzk BK256.out 0).trans rfl,(zzk BK256.out 1).trans rfl,(zzk BK256.out 2).trans rfl,(zzk BK256.out 3).trans rfl,(zzk BK256.out 4).trans rfl,(zzk BK256.out 5).trans rfl,(zzx HB.out hw264_0),(zzx HB.out hw264_1),(zzx HB.out hw264_2),(zzx HB.out hw264_3),(zzx HB.out hw264_4),(zzx HB.out hw264_5)⟩ (fun hHeld=>?_);clear hK K;refine norm_ (a':=?_) ?_ ?_;rotate_left
                ·
                 show Act.put _ (some 60) _ = _;simp only [Act.put,zzq,zzr,zzs,i64_w,i32_w];rfl
                refine pure_ (i:=2) (N:=some 61) (v:=?_) (a':=?_) (zzB 19 7) rfl rfl (zzA2 HT_.out) (fun _ _ _ h=>h) (Or.inl ⟨by rfl,?_⟩) ?_ ?_;rotate_left
                ·
                 intro w';go_simp;with_reducible rfl
                rotate_left
                ·
                 simp only [Act.put,zzq,zzr,zzs,i64_w,i32_w];rfl
                refine pure_ (i:=3) (N:=some 62) (v:=?_) (a':=?_) (zzB 19 15) rfl rfl (zzA2 HT_.out) (fun _ _ _ h=>h) (Or.inl ⟨by rfl,?_⟩) ?_ ?_;rotate_left
                ·
                 intro w';go_simp;with_reducible rfl
                rotate_left
                ·
                 simp only [Act.put,zzq,zzr,zzs,i64_w,i32_w];rfl
                refine pure_ (i:=4) (N:=some 63) (v:=?_) (a':=?_) (zzB 19 31) rfl rfl (zzA2 HT_.out) (fun _ _ _ h=>h) (Or.inl ⟨by rfl,?_⟩) ?_ ?_;rotate_left
                ·
                 intro w';go_simp;with_reducible rfl
                rotate_left
                ·
                 simp only [Act.put,zzq,zzr,zzs,i64_w,i32_w];rfl
                refine pure_ (i:=5) (N:=some 64) (v:=?_) (a':=?_) (zzB 19 63) rfl rfl (zzA2 HT_.out) (fun _ _ _ h=>h) (Or.inl ⟨by rfl,?_⟩) ?_ ?_;rotate_left
                ·
                 intro w';go_simp;with_reducible rfl
                rotate_left
                ·
                 simp only [Act.put,zzq,zzr,zzs,i64_w,i32_w];rfl
                refine pure_ (i:=6) (N:=some 65) (v:=?_) (a':=?_) (zzB 19 127) rfl rfl (zzA2 HT_.out) (fun _ _ _ h=>h) (Or.inl ⟨by rfl,?_⟩) ?_ ?_;rotate_left
                ·
                 intro w';go_simp;with_reducible rfl
                rotate_left
                ·
                 simp only [Act.put,zzq,zzr,zzs,i64_w,i32_w];rfl
                refine pure_ (i:=7) (N:=some 66) (v:=?_) (a':=?_) (zzB 19 255) rfl rfl (zzA2 HT_.out) (fun _ _ _ h=>h) (Or.inl ⟨by rfl,?_⟩) ?_ ?_;rotate_left
                ·
                 intro w';go_simp;with_reducible rfl
                rotate_left
                ·
                 simp only [Act.put,zzq,zzr,zzs,i64_w,i32_w];rfl
                refine pure_ (i:=9) (N:=some 68) (v:=?_) (a':=?_) (zzB 19 767) rfl rfl (zzA2 HT_.out) (fun _ _ _ h=>h) (Or.inl ⟨by rfl,?_⟩) ?_ ?_;rotate_left
                ·
                 intro w';go_simp;with_reducible rfl
                rotate_left
                ·
                 simp only [Act.put,zzq,zzr,zzs,i64_w,i32_w];rfl
                refine pure_ (i:=10) (N:=some 69) (v:=?_) (a':=?_) (zzB 19 1791) rfl rfl (zzA2 HT_.out) (fun _ _ _ h=>h) (Or.inl ⟨by rfl,?_⟩) ?_ ?_;rotate_left
                ·
                 intro w';go_simp;with_reducible rfl
                rotate_left
                ·
                 simp only [Act.put,zzq,zzr,zzs,i64_w,i32_w];rfl
                refine pure_ (i:=14) (N:=some 73) (v:=?_) (a':=?_) (zzB 19 18175) rfl rfl (zzA2 HT_.out) (fun _ _ _ h=>h) (Or.inl ⟨by rfl,?_⟩) ?_ ?_;rotate_left
                ·
                 intro w';go_simp;with_reducible rfl
                rotate_left
                ·
                 simp only [Act.put,zzq,zzr,zzs,i64_w,i32_w];rfl
                refine take_ (i:=8) (N:=some 67) (v:=?_) (a':=?_) (zzB 19 18431) rfl rfl (take_ofW HT_.out HW_.out (by kernel_rfl)) (fun _ _ _ h=>h) (Or.inl ⟨by rfl,?_⟩) hHeld ?_ ?_;rotate_left
                ·
                 rintro w' ⟨s0,s1,s2,s3,s4,s5,s6,s7,s8,s9,s10,s11,s12,s13,s14,s15,s16,s17⟩;go_simp;with_reducible rfl
                rotate_left
                ·
                 simp only [Act.put,zzq,zzr,zzs,i64_w,i32_w];rfl
                refine pure_ (i:=11) (N:=some 70) (v:=?_) (a':=?_) (zzB 19 20479) rfl rfl (zzA2 HT_.out) (fun _ _ _ h=>h) (Or.inl ⟨by rfl,?_⟩) ?_ ?_;rotate_left
                ·
                 intro w';go_simp;with_reducible rfl
                rotate_left
                ·
                 simp only [Act.put,zzq,zzr,zzs,i64_w,i32_w];rfl
                refine pure_ (i:=12) (N:=some 71) (v:=?_) (a':=?_) (zzB 19 24575) rfl rfl (zzA2 HT_.out) (fun _ _ _ h=>h) (Or.inl ⟨by rfl,?_⟩) ?_ ?_;rotate_left
                ·
                 intro w';go_simp;with_reducible rfl
                rotate_left
                ·
                 simp only [Act.put,zzq,zzr,zzs,i64_w,i32_w];rfl
                refine take_ (i:=13) (N:=some 72) (v:=?_) (a':=?_) (zzB 19 32767) rfl rfl (take_ofW HT_.out HW_.out (by kernel_rfl)) (fun _ _ _ h=>h) (Or.inl ⟨by rfl,?_⟩) hHeld ?_ ?_;rotate_left
                ·
                 rintro w' ⟨s0,s1,s2,s3,s4,s5,s6,s7,s8,s9,s10,s11,s12,s13,s14,s15,s16,s17⟩;go_simp;with_reducible rfl
                rotate_left
                ·
                 simp only [Act.put,zzq,zzr,zzs,i64_w,i32_w];rfl
                refine take_ (i:=15) (N:=some 74) (v:=?_) (a':=?_) (zzB 19 65535) rfl rfl (take_ofW HT_.out HW_.out (by kernel_rfl)) (fun _ _ _ h=>h) (Or.inl ⟨by rfl,?_⟩) hHeld ?_ ?_;rotate_left
                ·
                 rintro w' ⟨s0,s1,s2,s3,s4,s5,s6,s7,s8,s9,s10,s11,s12,s13,s14,s15,s16,s17⟩;go_simp;with_reducible rfl
                rotate_left
                ·
                 simp only [Act.put,zzq,zzr,zzs,i64_w,i32_w];rfl
                refine pure_ (i:=16) (N:=some 75) (v:=?_) (a':=?_) (zzB 19 131071) rfl rfl (zzA2 HT_.out) (fun _ _ _ h=>h) (Or.inl ⟨by rfl,?_⟩) ?_ ?_;rotate_left
                ·
                 intro w';go_simp;with_reducible rfl
                rotate_left
                ·
                 simp only [Act.put,zzq,zzr,zzs,i64_w,i32_w];rfl
                refine pure_ (i:=17) (N:=some 76) (v:=?_) (a':=?_) (zzB 19 262143) rfl rfl (zzA2 HT_.out) (fun _ _ _ h=>h) (Or.inl ⟨by rfl,?_⟩) ?_ ?_;rotate_left
                ·
                 intro w';go_simp;with_reducible rfl
                rotate_left
                ·
                 simp only [Act.put,zzq,zzr,zzs,i64_w,i32_w];rfl
                refine pure_ (i:=18) (N:=some 77) (v:=?_) (a':=?_) (zzB 19 524287) rfl rfl (zzA2 HT_.out) (fun _ _ _ h=>h) (Or.inl ⟨by rfl,?_⟩) ?_ ?_;rotate_left
                ·
                 intro w';go_simp;with_reducible rfl
                rotate_left
                ·
                 simp only [Act.put,zzq,zzr,zzs,i64_w,i32_w];rfl
                refine done_ (done_of HT_.out (by kernel_rfl)) ?_;try go_wp2
                go_roundg k3
                case measure=>have:=HJ1.out;have:=HJ22.out;have:=HK3.out;omega
                case rel=>exact ⟨(wrap64 (x54_3+1)),(by first|rfl|(simp;done)|(simp [*];done)),H',⟨by have:=HJ1.out;have:=HJ22.out;have:=HK3.out;omega⟩,⟨by (with_reducible repeat (first|apply zzf|apply zzg|apply zze));exact BK256.out⟩,⟨by repeat (first|(with_reducible first|exact HB.out|apply zza|apply zzb|apply zzc|refine zzd ?_ GE256.out|refine zzd ?_ GE262.out)|exact HB.out)⟩⟩
              ·
               rw [if_neg c40] at H;exact absurd H (by simp)
             ·
              rw [if_neg c39] at H;exact absurd H (by simp)
            ·
             rw [if_neg c37] at H;have c37b0:decide (0 < x54_3)=false:=decide_eq_false c37;clear c37;have H':=zzm H;clear H;have p261 : 0≤(x54_3:Int):=zzt;have q261:x54_3 < (l0_5.length:Int):=zzt;obtain ⟨ad261,A261_3,c261_3,A261_5,c261_5,e261,hx261_0,hx261_1,hx261_2,hx261_3,hx261_4,hx261_5,hl261_3,hi261_3,hl261_5,hi261_5⟩:=at_T34 HR0_5.out x54_3 p261 q261;cases e261;replace hx261_0:=zzx HB.out hx261_0;replace hx261_1:=zzx HB.out hx261_1;replace hx261_2:=zzx HB.out hx261_2;replace hx261_3:=zzx HB.out hx261_3;replace hx261_4:=zzx HB.out hx261_4;replace hx261_5:=zzx HB.out hx261_5;have HR261_3:=zzm hi261_3;have HC261_3:=zzm hl261_3;clear hi261_3 hl261_3;have HR261_5:=zzm hi261_5;have HC261_5:=zzm hl261_5;clear hi261_5 hl261_5;replace p261:=eq_true p261;replace q261:=eq_true q261;try go_wp2_with (first|((with_reducible refine gate_dst (N:=4) rfl ?_);(try (refine gate_guard (by rfl) ?_;dsimp only));refine box_event ?hg (N:=4) ?hd (cs:=#[.int .i64 0,.int .i64 0,.bool false,.slice none 0 0,.bool false,.slice none 0 0]) (t:=34) ?hr ?_;(case hd=>rfl);(case hg=>rfl);(case hr=>first|(go_simp;done)|(go_simp;rfl));intro gb262 hg w54 hbox hb;have n0_:=zzm (zzh (g:=gb256) (o:=.cells #[.bool a0_0,.bool a0_1,.int .i64 a0_2,.int .i64 a0_3,.int .i64 a0_4,.slice (some ad261) l0_5.length c0_5] 27 (0,0)) (zzE BK256.out) hb);have n1_:=zzm (zzp zzh2 hb);have n2_:=zzm (hbox);have n3_:=zzm ((by rw [hg];exact (zzo zzh2):w.heap.size≤gb262));have n4_:=zzm ((by rw [hg];exact (zzo zzh2):w.heap.size≤gb262));have n5_:=zzm ((by rw [hg];exact Nat.ne_of_lt (blk_lt (g:=gb256) (o:=.cells #[.bool a0_0,.bool a0_1,.int .i64 a0_2,.int .i64 a0_3,.int .i64 a0_4,.slice (some ad261) l0_5.length c0_5] 27 (0,0)) (zzE BK256.out)):gb256≠gb262));have n6_:=zzm ((by rw [hg];exact Nat.ne_of_gt (blk_lt (g:=gb256) (o:=.cells #[.bool a0_0,.bool a0_1,.int .i64 a0_2,.int .i64 a0_3,.int .i64 a0_4,.slice (some ad261) l0_5.length c0_5] 27 (0,0)) (zzE BK256.out)):gb262≠gb256));clear BK256 HB;have BK256:=n0_;have HB:=n1_;have BK262:=n2_;have GW262:=n3_;have GE262:=n4_;have NB256_262:=n5_;have NB262_256:=n6_;clear n0_ n1_ n2_ n3_ n4_ n5_ n6_ hb hbox hg;have hnb55:=NB262_256.out;have hnc55:=NB256_262.out;obtain ⟨hcz56_0,hcz56_1,hcz56_2,hcz56_3,hcz56_4,hcz56_5,hfz56_0,hfz56_1,hfz56_2,hfz56_3,hfz56_4,hfz56_5⟩:=zzc6 BK262.out))
             have n0_:Aside0 (((((((w54.setCell ⟨gb262,0,none⟩ (.int .i64 ((rd_T34 l0_5 x54_3).f0))).setCell ⟨gb262,1,none⟩ (.int .i64 ((rd_T34 l0_5 x54_3).f1))).setCell ⟨gb262,2,none⟩ (.bool ((rd_T34 l0_5 x54_3).f2))).setCell ⟨gb262,3,none⟩ (.slice A261_3 ((rd_T34 l0_5 x54_3).f3).length c261_3)).setCell ⟨gb262,4,none⟩ (.bool ((rd_T34 l0_5 x54_3).f4))).setCell ⟨gb262,5,none⟩ (.slice A261_5 ((rd_T34 l0_5 x54_3).f5).length c261_5)).heap[gb256]? = some (.cells #[.bool a0_0,.bool a0_1,.int .i64 a0_2,.int .i64 a0_3,.int .i64 a0_4,.slice (some ad261) l0_5.length c0_5] 27 (0,0))):=⟨by (with_reducible repeat (first|apply zzf|apply zzg|apply zze));refine zzj ?_ NB256_262.out _;(with_reducible repeat (first|apply zzf|apply zzg|apply zze));refine zzj ?_ NB256_262.out _;(with_reducible repeat (first|apply zzf|apply zzg|apply zze));refine zzj ?_ NB256_262.out _;(with_reducible repeat (first|apply zzf|apply zzg|apply zze));refine zzj ?_ NB256_262.out _;(with_reducible repeat (first|apply zzf|apply zzg|apply zze));refine zzj ?_ NB256_262.out _;(with_reducible repeat (first|apply zzf|apply zzg|apply zze));refine zzj ?_ NB256_262.out _;(with_reducible repeat (first|apply zzf|apply zzg|apply zze));exact BK256.out⟩;have n1_:Aside0 (((((((w54.setCell ⟨gb262,0,none⟩ (.int .i64 ((rd_T34 l0_5 x54_3).f0))).setCell ⟨gb262,1,none⟩ (.int .i64 ((rd_T34 l0_5 x54_3).f1))).setCell ⟨gb262,2,none⟩ (.bool ((rd_T34 l0_5 x54_3).f2))).setCell ⟨gb262,3,none⟩ (.slice A261_3 ((rd_T34 l0_5 x54_3).f3).length c261_3)).setCell ⟨gb262,4,none⟩ (.bool ((rd_T34 l0_5 x54_3).f4))).setCell ⟨gb262,5,none⟩ (.slice A261_5 ((rd_T34 l0_5 x54_3).f5).length c261_5)).heap[gb262]? = some (.cells #[.int .i64 ((rd_T34 l0_5 x54_3).f0),.int .i64 ((rd_T34 l0_5 x54_3).f1),.bool ((rd_T34 l0_5 x54_3).f2),.slice A261_3 ((rd_T34 l0_5 x54_3).f3).length c261_3,.bool ((rd_T34 l0_5 x54_3).f4),.slice A261_5 ((rd_T34 l0_5 x54_3).f5).length c261_5] 34 (0,0))):=⟨by (with_reducible repeat (first|apply zzf|apply zzg|apply zze));refine zzi (cs:=#[.int .i64 ((rd_T34 l0_5 x54_3).f0),.int .i64 ((rd_T34 l0_5 x54_3).f1),.bool ((rd_T34 l0_5 x54_3).f2),.slice A261_3 ((rd_T34 l0_5 x54_3).f3).length c261_3,.bool ((rd_T34 l0_5 x54_3).f4),.slice none 0 0]) ?_ 5 _ rfl;(with_reducible repeat (first|apply zzf|apply zzg|apply zze));refine zzi (cs:=#[.int .i64 ((rd_T34 l0_5 x54_3).f0),.int .i64 ((rd_T34 l0_5 x54_3).f1),.bool ((rd_T34 l0_5 x54_3).f2),.slice A261_3 ((rd_T34 l0_5 x54_3).f3).length c261_3,.bool false,.slice none 0 0]) ?_ 4 _ rfl;(with_reducible repeat (first|apply zzf|apply zzg|apply zze));refine zzi (cs:=#[.int .i64 ((rd_T34 l0_5 x54_3).f0),.int .i64 ((rd_T34 l0_5 x54_3).f1),.bool ((rd_T34 l0_5 x54_3).f2),.slice none 0 0,.bool false,.slice none 0 0]) ?_ 3 _ rfl;(with_reducible repeat (first|apply zzf|apply zzg|apply zze));refine zzi (cs:=#[.int .i64 ((rd_T34 l0_5 x54_3).f0),.int .i64 ((rd_T34 l0_5 x54_3).f1),.bool false,.slice none 0 0,.bool false,.slice none 0 0]) ?_ 2 _ rfl;(with_reducible repeat (first|apply zzf|apply zzg|apply zze));refine zzi (cs:=#[.int .i64 ((rd_T34 l0_5 x54_3).f0),.int .i64 0,.bool false,.slice none 0 0,.bool false,.slice none 0 0]) ?_ 1 _ rfl;(with_reducible repeat (first|apply zzf|apply zzg|apply zze));refine zzi (cs:=#[.int .i64 0,.int .i64 0,.bool false,.slice none 0 0,.bool false,.slice none 0 0]) ?_ 0 _ rfl;(with_reducible repeat (first|apply zzf|apply zzg|apply zze));exact BK262.out⟩;have n2_:Aside0 (Below w.heap.size w ((((((w54.setCell ⟨gb262,0,none⟩ (.int .i64 ((rd_T34 l0_5 x54_3).f0))).setCell ⟨gb262,1,none⟩ (.int .i64 ((rd_T34 l0_5 x54_3).f1))).setCell ⟨gb262,2,none⟩ (.bool ((rd_T34 l0_5 x54_3).f2))).setCell ⟨gb262,3,none⟩ (.slice A261_3 ((rd_T34 l0_5 x54_3).f3).length c261_3)).setCell ⟨gb262,4,none⟩ (.bool ((rd_T34 l0_5 x54_3).f4))).setCell ⟨gb262,5,none⟩ (.slice A261_5 ((rd_T34 l0_5 x54_3).f5).length c261_5))):=⟨by repeat (first|(with_reducible first|exact HB.out|apply zza|apply zzb|apply zzc|refine zzd ?_ GE256.out|refine zzd ?_ GE262.out)|exact HB.out)⟩;(try clear BK256);(try clear BK262);(try clear HB);generalize ((((((w54.setCell ⟨gb262,0,none⟩ (.int .i64 ((rd_T34 l0_5 x54_3).f0))).setCell ⟨gb262,1,none⟩ (.int .i64 ((rd_T34 l0_5 x54_3).f1))).setCell ⟨gb262,2,none⟩ (.bool ((rd_T34 l0_5 x54_3).f2))).setCell ⟨gb262,3,none⟩ (.slice A261_3 ((rd_T34 l0_5 x54_3).f3).length c261_3)).setCell ⟨gb262,4,none⟩ (.bool ((rd_T34 l0_5 x54_3).f4))).setCell ⟨gb262,5,none⟩ (.slice A261_5 ((rd_T34 l0_5 x54_3).f5).length c261_5))=w57 at n0_ n1_ n2_ ⊢;have BK256:=n0_;have BK262:=n1_;have HB:=n2_;clear n0_ n1_ n2_;have n0_:=zzm (zzg BK256.out);have n1_:=zzm (zzg BK262.out);have n2_:=zzm (zzc HB.out);clear BK256 BK262 HB;have BK256:=n0_;have BK262:=n1_;have HB:=n2_;clear n0_ n1_ n2_;refine start_ (n:=19) (S:=fun w'=>w'.cell? ⟨gb262,0,none⟩=some (.int .i64 ((rd_T34 l0_5 x54_3).f0))∧w'.cell? ⟨gb262,1,none⟩=some (.int .i64 ((rd_T34 l0_5 x54_3).f1))∧w'.cell? ⟨gb262,2,none⟩=some (.bool ((rd_T34 l0_5 x54_3).f2))∧w'.cell? ⟨gb262,3,none⟩=some (.slice A261_3 ((rd_T34 l0_5 x54_3).f3).length c261_3)∧w'.cell? ⟨gb262,4,none⟩=some (.bool ((rd_T34 l0_5 x54_3).f4))∧w'.cell? ⟨gb262,5,none⟩=some (.slice A261_5 ((rd_T34 l0_5 x54_3).f5).length c261_5)) (ds:=[]) (zzB 19 0) (by kernel_rfl) rfl rfl ⟨(zzk BK262.out 0).trans rfl,(zzk BK262.out 1).trans rfl,(zzk BK262.out 2).trans rfl,(zzk BK262.out 3).trans rfl,(zzk BK262.out 4).trans rfl,(zzk BK262.out 5).trans rfl⟩ (fun hHeld=>?_);refine with_tabW impl_BatchValid.tab11 impl_BatchValid.bits11 (fun HT_ HW_=>?_);generalize w57.drew=w58 at BK256 BK262 HB hHeld ⊢;refine take_ (i:=0) (N:=some 59) (v:=?_) (a':=?_) (zzB 19 1) rfl rfl (take_ofW HT_.out HW_.out (by kernel_rfl)) (fun _ _ _ h=>h) (Or.inl ⟨by rfl,?_⟩) hHeld ?_ ?_;rotate_left
             ·
              rintro w' ⟨s0,s1,s2,s3,s4,s5⟩;go_simp;with_reducible rfl
             rotate_left
             ·
              simp only [Act.put,zzq,zzr,zzs,i64_w,i32_w];rfl
             refine one_ (i:=1) (N:=some 60) (zzB 19 3) rfl rfl (one_of HT_.out (by kernel_rfl)) (by decide) (fun K hK=>?_);refine goes_ Try.func58 (by kernel_rfl) rfl #[.agg #[.int .i64 ((rd_T34 l0_5 x54_3).f0),.int .i64 ((rd_T34 l0_5 x54_3).f1),.bool ((rd_T34 l0_5 x54_3).f2),.slice A261_3 ((rd_T34 l0_5 x54_3).f3).length c261_3,.bool ((rd_T34 l0_5 x54_3).f4),.slice A261_5 ((rd_T34 l0_5 x54_3).f5).length c261_5]] (by rfl) rfl rfl zzM2 ?_;with_reducible refine (impl_RecordValid.calls k3 ((rd_T34 l0_5 x54_3).f0) ((rd_T34 l0_5 x54_3).f1) ((rd_T34 l0_5 x54_3).f2) _ _ ((rd_T34 l0_5 x54_3).f3) ((rd_T34 l0_5 x54_3).f4) _ _ ((rd_T34 l0_5 x54_3).f5) true _ ?side1 ?side2 ?side3 ?side4 A35.out).mono ?_;(case side1=>repeat (first|exact (Kd.C_below HR261_3.out HB.out)|(with_reducible refine Kd.C_alloc ?_ _)|(with_reducible refine Kd.C_drewN ?_ _)|(with_reducible refine Kd.C_drew ?_)));(case side2=>exact HC261_3.out);(case side3=>repeat (first|exact (Kd.C_below HR261_5.out HB.out)|(with_reducible refine Kd.C_alloc ?_ _)|(with_reducible refine Kd.C_drewN ?_ _)|(with_reducible refine Kd.C_drew ?_)));(case side4=>exact HC261_5.out);rintro e w59 ⟨rfl,hb⟩;refine ⟨_,rfl,?_⟩;have n0_:=zzm (zzh (g:=gb256) (o:=.cells #[.bool a0_0,.bool a0_1,.int .i64 a0_2,.int .i64 a0_3,.int .i64 a0_4,.slice (some ad261) l0_5.length c0_5] 27 (0,0)) (zzE BK256.out) hb);have n1_:=zzm (zzh (g:=gb262) (o:=.cells #[.int .i64 ((rd_T34 l0_5 x54_3).f0),.int .i64 ((rd_T34 l0_5 x54_3).f1),.bool ((rd_T34 l0_5 x54_3).f2),.slice A261_3 ((rd_T34 l0_5 x54_3).f3).length c261_3,.bool ((rd_T34 l0_5 x54_3).f4),.slice A261_5 ((rd_T34 l0_5 x54_3).f5).length c261_5] 34 (0,0)) (zzE BK262.out) hb);have n2_:=zzm (zzp zzh2 hb);clear BK256 BK262 HB;have BK256:=n0_;have BK262:=n1_;have HB:=n2_;clear n0_ n1_ n2_;(try clear hb);(try clear hb2);(try clear hk);(try clear hi);refine hK.out _ _ ⟨(zzk BK262.out 0).trans rfl,(zzk BK262.out 1).trans rfl,(zzk BK262.out 2).trans rfl,(zzk BK262.out 3).trans rfl,(zzk BK262.out 4).trans rfl,(zzk BK262.out 5).trans rfl⟩ (fun hHeld=>?_);clear hK K;refine norm_ (a':=?_) ?_ ?_;rotate_left
             ·
              show Act.put _ (some 60) _ = _;simp only [Act.put,zzq,zzr,zzs,i64_w,i32_w];rfl
             refine pure_ (i:=2) (N:=some 61) (v:=?_) (a':=?_) (zzB 19 7) rfl rfl (zzA2 HT_.out) (fun _ _ _ h=>h) (Or.inl ⟨by rfl,?_⟩) ?_ ?_;rotate_left
             ·
              intro w';go_simp;with_reducible rfl
             rotate_left
             ·
              simp only [Act.put,zzq,zzr,zzs,i64_w,i32_w];rfl
             refine pure_ (i:=3) (N:=some 62) (v:=?_) (a':=?_) (zzB 19 15) rfl rfl (zzA2 HT_.out) (fun _ _ _ h=>h) (Or.inl ⟨by rfl,?_⟩) ?_ ?_;rotate_left
             ·
              intro w';go_simp;with_reducible rfl
             rotate_left
             ·
              simp only [Act.put,zzq,zzr,zzs,i64_w,i32_w];rfl
             refine pure_ (i:=4) (N:=some 63) (v:=?_) (a':=?_) (zzB 19 31) rfl rfl (zzA2 HT_.out) (fun _ _ _ h=>h) (Or.inl ⟨by rfl,?_⟩) ?_ ?_;rotate_left
             ·
              intro w';go_simp;with_reducible rfl
             rotate_left
             ·
              simp only [Act.put,zzq,zzr,zzs,i64_w,i32_w];rfl
             refine pure_ (i:=5) (N:=some 64) (v:=?_) (a':=?_) (zzB 19 63) rfl rfl (zzA2 HT_.out) (fun _ _ _ h=>h) (Or.inl ⟨by rfl,?_⟩) ?_ ?_;rotate_left
             ·
              intro w';go_simp;with_reducible rfl
             rotate_left
             ·
              simp only [Act.put,zzq,zzr,zzs,i64_w,i32_w];rfl
             refine pure_ (i:=6) (N:=some 65) (v:=?_) (a':=?_) (zzB 19 127) rfl rfl (zzA2 HT_.out) (fun _ _ _ h=>h) (Or.inl ⟨by rfl,?_⟩) ?_ ?_;rotate_left
             ·
              intro w';go_simp;with_reducible rfl
             rotate_left
             ·
              simp only [Act.put,zzq,zzr,zzs,i64_w,i32_w];rfl
             refine pure_ (i:=7) (N:=some 66) (v:=undef) (a':=?_) (zzB 19 255) rfl rfl (zzA2 HT_.out) (fun _ _ _ h=>h) (Or.inr ⟨by rfl,rfl⟩) ?_ ?_;rotate_left
             ·
              simp only [Act.put,zzq,zzr,zzs,i64_w,i32_w];rfl
             refine pure_ (i:=8) (N:=some 67) (v:=undef) (a':=?_) (zzB 19 511) rfl rfl (zzA2 HT_.out) (fun _ _ _ h=>h) (Or.inr ⟨by rfl,rfl⟩) ?_ ?_;rotate_left
             ·
              simp only [Act.put,zzq,zzr,zzs,i64_w,i32_w];rfl
             refine pure_ (i:=9) (N:=some 68) (v:=undef) (a':=?_) (zzB 19 1023) rfl rfl (zzA2 HT_.out) (fun _ _ _ h=>h) (Or.inr ⟨by rfl,rfl⟩) ?_ ?_;rotate_left
             ·
              simp only [Act.put,zzq,zzr,zzs,i64_w,i32_w];rfl
             refine pure_ (i:=10) (N:=some 69) (v:=undef) (a':=?_) (zzB 19 2047) rfl rfl (zzA2 HT_.out) (fun _ _ _ h=>h) (Or.inr ⟨by rfl,rfl⟩) ?_ ?_;rotate_left
             ·
              simp only [Act.put,zzq,zzr,zzs,i64_w,i32_w];rfl
             refine pure_ (i:=11) (N:=some 70) (v:=undef) (a':=?_) (zzB 19 4095) rfl rfl (zzA2 HT_.out) (fun _ _ _ h=>h) (Or.inr ⟨by rfl,rfl⟩) ?_ ?_;rotate_left
             ·
              simp only [Act.put,zzq,zzr,zzs,i64_w,i32_w];rfl
             refine pure_ (i:=12) (N:=some 71) (v:=undef) (a':=?_) (zzB 19 8191) rfl rfl (zzA2 HT_.out) (fun _ _ _ h=>h) (Or.inr ⟨by rfl,rfl⟩) ?_ ?_;rotate_left
             ·
              simp only [Act.put,zzq,zzr,zzs,i64_w,i32_w];rfl
             refine pure_ (i:=13) (N:=some 72) (v:=undef) (a':=?_) (zzB 19 16383) rfl rfl (zzA2 HT_.out) (fun _ _ _ h=>h) (Or.inr ⟨by rfl,rfl⟩) ?_ ?_;rotate_left
             ·
              simp only [Act.put,zzq,zzr,zzs,i64_w,i32_w];rfl
             refine pure_ (i:=14) (N:=some 73) (v:=undef) (a':=?_) (zzB 19 32767) rfl rfl (zzA2 HT_.out) (fun _ _ _ h=>h) (Or.inr ⟨by rfl,rfl⟩) ?_ ?_;rotate_left
             ·
              simp only [Act.put,zzq,zzr,zzs,i64_w,i32_w];rfl
             refine pure_ (i:=15) (N:=some 74) (v:=undef) (a':=?_) (zzB 19 65535) rfl rfl (zzA2 HT_.out) (fun _ _ _ h=>h) (Or.inr ⟨by rfl,rfl⟩) ?_ ?_;rotate_left
             ·
              simp only [Act.put,zzq,zzr,zzs,i64_w,i32_w];rfl
             refine pure_ (i:=16) (N:=some 75) (v:=undef) (a':=?_) (zzB 19 131071) rfl rfl (zzA2 HT_.out) (fun _ _ _ h=>h) (Or.inr ⟨by rfl,rfl⟩) ?_ ?_;rotate_left
             ·
              simp only [Act.put,zzq,zzr,zzs,i64_w,i32_w];rfl
             refine pure_ (i:=17) (N:=some 76) (v:=?_) (a':=?_) (zzB 19 262143) rfl rfl (zzA2 HT_.out) (fun _ _ _ h=>h) (Or.inl ⟨by rfl,?_⟩) ?_ ?_;rotate_left
             ·
              intro w';go_simp;with_reducible rfl
             rotate_left
             ·
              simp only [Act.put,zzq,zzr,zzs,i64_w,i32_w];rfl
             refine pure_ (i:=18) (N:=some 77) (v:=?_) (a':=?_) (zzB 19 524287) rfl rfl (zzA2 HT_.out) (fun _ _ _ h=>h) (Or.inl ⟨by rfl,?_⟩) ?_ ?_;rotate_left
             ·
              intro w';go_simp;with_reducible rfl
             rotate_left
             ·
              simp only [Act.put,zzq,zzr,zzs,i64_w,i32_w];rfl
             refine done_ (done_of HT_.out (by kernel_rfl)) ?_;try go_wp2
             go_roundg k3
             case measure=>have:=HJ1.out;have:=HJ22.out;have:=HK3.out;omega
             case rel=>exact ⟨(wrap64 (x54_3+1)),(by first|rfl|(simp;done)|(simp [*];done)),H',⟨by have:=HJ1.out;have:=HJ22.out;have:=HK3.out;omega⟩,⟨by (with_reducible repeat (first|apply zzf|apply zzg|apply zze));exact BK256.out⟩,⟨by repeat (first|(with_reducible first|exact HB.out|apply zza|apply zzb|apply zzc|refine zzd ?_ GE256.out|refine zzd ?_ GE262.out)|exact HB.out)⟩⟩
           ·
            replace c36:=Bool.eq_false_iff.mpr c36;subst c36;have H1:(some false)=some r:=by rw [if_neg (show ¬ (false=true) by decide)] at H;exact H
            clear H;have H:=H1;clear H1;obtain rfl:=Option.some.inj H;have p261 : 0≤(x54_3:Int):=zzt;have q261:x54_3 < (l0_5.length:Int):=zzt;obtain ⟨ad261,A261_3,c261_3,A261_5,c261_5,e261,hx261_0,hx261_1,hx261_2,hx261_3,hx261_4,hx261_5,hl261_3,hi261_3,hl261_5,hi261_5⟩:=at_T34 HR0_5.out x54_3 p261 q261;cases e261;replace hx261_0:=zzx HB.out hx261_0;replace hx261_1:=zzx HB.out hx261_1;replace hx261_2:=zzx HB.out hx261_2;replace hx261_3:=zzx HB.out hx261_3;replace hx261_4:=zzx HB.out hx261_4;replace hx261_5:=zzx HB.out hx261_5;have HR261_3:=zzm hi261_3;have HC261_3:=zzm hl261_3;clear hi261_3 hl261_3;have HR261_5:=zzm hi261_5;have HC261_5:=zzm hl261_5;clear hi261_5 hl261_5;replace p261:=eq_true p261;replace q261:=eq_true q261;try go_wp2_with (first|((with_reducible refine gate_dst (N:=4) rfl ?_);(try (refine gate_guard (by rfl) ?_;dsimp only));refine box_event ?hg (N:=4) ?hd (cs:=#[.int .i64 0,.int .i64 0,.bool false,.slice none 0 0,.bool false,.slice none 0 0]) (t:=34) ?hr ?_;(case hd=>rfl);(case hg=>rfl);(case hr=>first|(go_simp;done)|(go_simp;rfl));intro gb262 hg w60 hbox hb;have n0_:=zzm (zzh (g:=gb256) (o:=.cells #[.bool a0_0,.bool a0_1,.int .i64 a0_2,.int .i64 a0_3,.int .i64 a0_4,.slice (some ad261) l0_5.length c0_5] 27 (0,0)) (zzE BK256.out) hb);have n1_:=zzm (zzp zzh2 hb);have n2_:=zzm (hbox);have n3_:=zzm ((by rw [hg];exact (zzo zzh2):w.heap.size≤gb262));have n4_:=zzm ((by rw [hg];exact (zzo zzh2):w.heap.size≤gb262));have n5_:=zzm ((by rw [hg];exact Nat.ne_of_lt (blk_lt (g:=gb256) (o:=.cells #[.bool a0_0,.bool a0_1,.int .i64 a0_2,.int .i64 a0_3,.int .i64 a0_4,.slice (some ad261) l0_5.length c0_5] 27 (0,0)) (zzE BK256.out)):gb256≠gb262));have n6_:=zzm ((by rw [hg];exact Nat.ne_of_gt (blk_lt (g:=gb256) (o:=.cells #[.bool a0_0,.bool a0_1,.int .i64 a0_2,.int .i64 a0_3,.int .i64 a0_4,.slice (some ad261) l0_5.length c0_5] 27 (0,0)) (zzE BK256.out)):gb262≠gb256));clear BK256 HB;have BK256:=n0_;have HB:=n1_;have BK262:=n2_;have GW262:=n3_;have GE262:=n4_;have NB256_262:=n5_;have NB262_256:=n6_;clear n0_ n1_ n2_ n3_ n4_ n5_ n6_ hb hbox hg;have hnb61:=NB262_256.out;have hnc61:=NB256_262.out;obtain ⟨hcz62_0,hcz62_1,hcz62_2,hcz62_3,hcz62_4,hcz62_5,hfz62_0,hfz62_1,hfz62_2,hfz62_3,hfz62_4,hfz62_5⟩:=zzc6 BK262.out))
            have n0_:Aside0 (((((((w60.setCell ⟨gb262,0,none⟩ (.int .i64 ((rd_T34 l0_5 x54_3).f0))).setCell ⟨gb262,1,none⟩ (.int .i64 ((rd_T34 l0_5 x54_3).f1))).setCell ⟨gb262,2,none⟩ (.bool ((rd_T34 l0_5 x54_3).f2))).setCell ⟨gb262,3,none⟩ (.slice A261_3 ((rd_T34 l0_5 x54_3).f3).length c261_3)).setCell ⟨gb262,4,none⟩ (.bool ((rd_T34 l0_5 x54_3).f4))).setCell ⟨gb262,5,none⟩ (.slice A261_5 ((rd_T34 l0_5 x54_3).f5).length c261_5)).heap[gb256]? = some (.cells #[.bool a0_0,.bool a0_1,.int .i64 a0_2,.int .i64 a0_3,.int .i64 a0_4,.slice (some ad261) l0_5.length c0_5] 27 (0,0))):=⟨by (with_reducible repeat (first|apply zzf|apply zzg|apply zze));refine zzj ?_ NB256_262.out _;(with_reducible repeat (first|apply zzf|apply zzg|apply zze));refine zzj ?_ NB256_262.out _;(with_reducible repeat (first|apply zzf|apply zzg|apply zze));refine zzj ?_ NB256_262.out _;(with_reducible repeat (first|apply zzf|apply zzg|apply zze));refine zzj ?_ NB256_262.out _;(with_reducible repeat (first|apply zzf|apply zzg|apply zze));refine zzj ?_ NB256_262.out _;(with_reducible repeat (first|apply zzf|apply zzg|apply zze));refine zzj ?_ NB256_262.out _;(with_reducible repeat (first|apply zzf|apply zzg|apply zze));exact BK256.out⟩;have n1_:Aside0 (((((((w60.setCell ⟨gb262,0,none⟩ (.int .i64 ((rd_T34 l0_5 x54_3).f0))).setCell ⟨gb262,1,none⟩ (.int .i64 ((rd_T34 l0_5 x54_3).f1))).setCell ⟨gb262,2,none⟩ (.bool ((rd_T34 l0_5 x54_3).f2))).setCell ⟨gb262,3,none⟩ (.slice A261_3 ((rd_T34 l0_5 x54_3).f3).length c261_3)).setCell ⟨gb262,4,none⟩ (.bool ((rd_T34 l0_5 x54_3).f4))).setCell ⟨gb262,5,none⟩ (.slice A261_5 ((rd_T34 l0_5 x54_3).f5).length c261_5)).heap[gb262]? = some (.cells #[.int .i64 ((rd_T34 l0_5 x54_3).f0),.int .i64 ((rd_T34 l0_5 x54_3).f1),.bool ((rd_T34 l0_5 x54_3).f2),.slice A261_3 ((rd_T34 l0_5 x54_3).f3).length c261_3,.bool ((rd_T34 l0_5 x54_3).f4),.slice A261_5 ((rd_T34 l0_5 x54_3).f5).length c261_5] 34 (0,0))):=⟨by (with_reducible repeat (first|apply zzf|apply zzg|apply zze));refine zzi (cs:=#[.int .i64 ((rd_T34 l0_5 x54_3).f0),.int .i64 ((rd_T34 l0_5 x54_3).f1),.bool ((rd_T34 l0_5 x54_3).f2),.slice A261_3 ((rd_T34 l0_5 x54_3).f3).length c261_3,.bool ((rd_T34 l0_5 x54_3).f4),.slice none 0 0]) ?_ 5 _ rfl;(with_reducible repeat (first|apply zzf|apply zzg|apply zze));refine zzi (cs:=#[.int .i64 ((rd_T34 l0_5 x54_3).f0),.int .i64 ((rd_T34 l0_5 x54_3).f1),.bool ((rd_T34 l0_5 x54_3).f2),.slice A261_3 ((rd_T34 l0_5 x54_3).f3).length c261_3,.bool false,.slice none 0 0]) ?_ 4 _ rfl;(with_reducible repeat (first|apply zzf|apply zzg|apply zze));refine zzi (cs:=#[.int .i64 ((rd_T34 l0_5 x54_3).f0),.int .i64 ((rd_T34 l0_5 x54_3).f1),.bool ((rd_T34 l0_5 x54_3).f2),.slice none 0 0,.bool false,.slice none 0 0]) ?_ 3 _ rfl;(with_reducible repeat (first|apply zzf|apply zzg|apply zze));refine zzi (cs:=#[.int .i64 ((rd_T34 l0_5 x54_3).f0),.int .i64 ((rd_T34 l0_5 x54_3).f1),.bool false,.slice none 0 0,.bool false,.slice none 0 0]) ?_ 2 _ rfl;(with_reducible repeat (first|apply zzf|apply zzg|apply zze));refine zzi (cs:=#[.int .i64 ((rd_T34 l0_5 x54_3).f0),.int .i64 0,.bool false,.slice none 0 0,.bool false,.slice none 0 0]) ?_ 1 _ rfl;(with_reducible repeat (first|apply zzf|apply zzg|apply zze));refine zzi (cs:=#[.int .i64 0,.int .i64 0,.bool false,.slice none 0 0,.bool false,.slice none 0 0]) ?_ 0 _ rfl;(with_reducible repeat (first|apply zzf|apply zzg|apply zze));exact BK262.out⟩;have n2_:Aside0 (Below w.heap.size w ((((((w60.setCell ⟨gb262,0,none⟩ (.int .i64 ((rd_T34 l0_5 x54_3).f0))).setCell ⟨gb262,1,none⟩ (.int .i64 ((rd_T34 l0_5 x54_3).f1))).setCell ⟨gb262,2,none⟩ (.bool ((rd_T34 l0_5 x54_3).f2))).setCell ⟨gb262,3,none⟩ (.slice A261_3 ((rd_T34 l0_5 x54_3).f3).length c261_3)).setCell ⟨gb262,4,none⟩ (.bool ((rd_T34 l0_5 x54_3).f4))).setCell ⟨gb262,5,none⟩ (.slice A261_5 ((rd_T34 l0_5 x54_3).f5).length c261_5))):=⟨by repeat (first|(with_reducible first|exact HB.out|apply zza|apply zzb|apply zzc|refine zzd ?_ GE256.out|refine zzd ?_ GE262.out)|exact HB.out)⟩;(try clear BK256);(try clear BK262);(try clear HB);generalize ((((((w60.setCell ⟨gb262,0,none⟩ (.int .i64 ((rd_T34 l0_5 x54_3).f0))).setCell ⟨gb262,1,none⟩ (.int .i64 ((rd_T34 l0_5 x54_3).f1))).setCell ⟨gb262,2,none⟩ (.bool ((rd_T34 l0_5 x54_3).f2))).setCell ⟨gb262,3,none⟩ (.slice A261_3 ((rd_T34 l0_5 x54_3).f3).length c261_3)).setCell ⟨gb262,4,none⟩ (.bool ((rd_T34 l0_5 x54_3).f4))).setCell ⟨gb262,5,none⟩ (.slice A261_5 ((rd_T34 l0_5 x54_3).f5).length c261_5))=w63 at n0_ n1_ n2_ ⊢;have BK256:=n0_;have BK262:=n1_;have HB:=n2_;clear n0_ n1_ n2_;have n0_:=zzm (zzg BK256.out);have n1_:=zzm (zzg BK262.out);have n2_:=zzm (zzc HB.out);clear BK256 BK262 HB;have BK256:=n0_;have BK262:=n1_;have HB:=n2_;clear n0_ n1_ n2_;refine start_ (n:=19) (S:=fun w'=>w'.cell? ⟨gb262,0,none⟩=some (.int .i64 ((rd_T34 l0_5 x54_3).f0))∧w'.cell? ⟨gb262,1,none⟩=some (.int .i64 ((rd_T34 l0_5 x54_3).f1))∧w'.cell? ⟨gb262,2,none⟩=some (.bool ((rd_T34 l0_5 x54_3).f2))∧w'.cell? ⟨gb262,3,none⟩=some (.slice A261_3 ((rd_T34 l0_5 x54_3).f3).length c261_3)∧w'.cell? ⟨gb262,4,none⟩=some (.bool ((rd_T34 l0_5 x54_3).f4))∧w'.cell? ⟨gb262,5,none⟩=some (.slice A261_5 ((rd_T34 l0_5 x54_3).f5).length c261_5)) (ds:=[]) (zzB 19 0) (by kernel_rfl) rfl rfl ⟨(zzk BK262.out 0).trans rfl,(zzk BK262.out 1).trans rfl,(zzk BK262.out 2).trans rfl,(zzk BK262.out 3).trans rfl,(zzk BK262.out 4).trans rfl,(zzk BK262.out 5).trans rfl⟩ (fun hHeld=>?_);refine with_tabW impl_BatchValid.tab11 impl_BatchValid.bits11 (fun HT_ HW_=>?_);generalize w63.drew=w64 at BK256 BK262 HB hHeld ⊢;refine take_ (i:=0) (N:=some 59) (v:=?_) (a':=?_) (zzB 19 1) rfl rfl (take_ofW HT_.out HW_.out (by kernel_rfl)) (fun _ _ _ h=>h) (Or.inl ⟨by rfl,?_⟩) hHeld ?_ ?_;rotate_left
            ·
             rintro w' ⟨s0,s1,s2,s3,s4,s5⟩;go_simp;with_reducible rfl
            rotate_left
            ·
             simp only [Act.put,zzq,zzr,zzs,i64_w,i32_w];rfl
            refine one_ (i:=1) (N:=some 60) (zzB 19 3) rfl rfl (one_of HT_.out (by kernel_rfl)) (by decide) (fun K hK=>?_);refine goes_ Try.func58 (by kernel_rfl) rfl #[.agg #[.int .i64 ((rd_T34 l0_5 x54_3).f0),.int .i64 ((rd_T34 l0_5 x54_3).f1),.bool ((rd_T34 l0_5 x54_3).f2),.slice A261_3 ((rd_T34 l0_5 x54_3).f3).length c261_3,.bool ((rd_T34 l0_5 x54_3).f4),.slice A261_5 ((rd_T34 l0_5 x54_3).f5).length c261_5]] (by rfl) rfl rfl zzM2 ?_;with_reducible refine (impl_RecordValid.calls k3 ((rd_T34 l0_5 x54_3).f0) ((rd_T34 l0_5 x54_3).f1) ((rd_T34 l0_5 x54_3).f2) _ _ ((rd_T34 l0_5 x54_3).f3) ((rd_T34 l0_5 x54_3).f4) _ _ ((rd_T34 l0_5 x54_3).f5) false _ ?side1 ?side2 ?side3 ?side4 A35.out).mono ?_;(case side1=>repeat (first|exact (Kd.C_below HR261_3.out HB.out)|(with_reducible refine Kd.C_alloc ?_ _)|(with_reducible refine Kd.C_drewN ?_ _)|(with_reducible refine Kd.C_drew ?_)));(case side2=>exact HC261_3.out);(case side3=>repeat (first|exact (Kd.C_below HR261_5.out HB.out)|(with_reducible refine Kd.C_alloc ?_ _)|(with_reducible refine Kd.C_drewN ?_ _)|(with_reducible refine Kd.C_drew ?_)));(case side4=>exact HC261_5.out);rintro e w65 ⟨rfl,hb⟩;refine ⟨_,rfl,?_⟩;have n0_:=zzm (zzh (g:=gb256) (o:=.cells #[.bool a0_0,.bool a0_1,.int .i64 a0_2,.int .i64 a0_3,.int .i64 a0_4,.slice (some ad261) l0_5.length c0_5] 27 (0,0)) (zzE BK256.out) hb);have n1_:=zzm (zzh (g:=gb262) (o:=.cells #[.int .i64 ((rd_T34 l0_5 x54_3).f0),.int .i64 ((rd_T34 l0_5 x54_3).f1),.bool ((rd_T34 l0_5 x54_3).f2),.slice A261_3 ((rd_T34 l0_5 x54_3).f3).length c261_3,.bool ((rd_T34 l0_5 x54_3).f4),.slice A261_5 ((rd_T34 l0_5 x54_3).f5).length c261_5] 34 (0,0)) (zzE BK262.out) hb);have n2_:=zzm (zzp zzh2 hb);clear BK256 BK262 HB;have BK256:=n0_;have BK262:=n1_;have HB:=n2_;clear n0_ n1_ n2_;(try clear hb);(try clear hb2);(try clear hk);(try clear hi);refine hK.out _ _ ⟨(zzk BK262.out 0).trans rfl,(zzk BK262.out 1).trans rfl,(zzk BK262.out 2).trans rfl,(zzk BK262.out 3).trans rfl,(zzk BK262.out 4).trans rfl,(zzk BK262.out 5).trans rfl⟩ (fun hHeld=>?_);clear hK K;refine norm_ (a':=?_) ?_ ?_;rotate_left
            ·
             show Act.put _ (some 60) _ = _;simp only [Act.put,zzq,zzr,zzs,i64_w,i32_w];rfl
            refine pure_ (i:=2) (N:=some 61) (v:=?_) (a':=?_) (zzB 19 7) rfl rfl (zzA2 HT_.out) (fun _ _ _ h=>h) (Or.inl ⟨by rfl,?_⟩) ?_ ?_;rotate_left
            ·
             intro w';go_simp;with_reducible rfl
            rotate_left
            ·
             simp only [Act.put,zzq,zzr,zzs,i64_w,i32_w];rfl
            refine pure_ (i:=3) (N:=some 62) (v:=?_) (a':=?_) (zzB 19 15) rfl rfl (zzA2 HT_.out) (fun _ _ _ h=>h) (Or.inl ⟨by rfl,?_⟩) ?_ ?_;rotate_left
            ·
             intro w';go_simp;with_reducible rfl
            rotate_left
            ·
             simp only [Act.put,zzq,zzr,zzs,i64_w,i32_w];rfl
            refine pure_ (i:=4) (N:=some 63) (v:=undef) (a':=?_) (zzB 19 31) rfl rfl (zzA2 HT_.out) (fun _ _ _ h=>h) (Or.inr ⟨by rfl,rfl⟩) ?_ ?_;rotate_left
            ·
             simp only [Act.put,zzq,zzr,zzs,i64_w,i32_w];rfl
            refine pure_ (i:=5) (N:=some 64) (v:=undef) (a':=?_) (zzB 19 63) rfl rfl (zzA2 HT_.out) (fun _ _ _ h=>h) (Or.inr ⟨by rfl,rfl⟩) ?_ ?_;rotate_left
            ·
             simp only [Act.put,zzq,zzr,zzs,i64_w,i32_w];rfl
            refine pure_ (i:=6) (N:=some 65) (v:=undef) (a':=?_) (zzB 19 127) rfl rfl (zzA2 HT_.out) (fun _ _ _ h=>h) (Or.inr ⟨by rfl,rfl⟩) ?_ ?_;rotate_left
            ·
             simp only [Act.put,zzq,zzr,zzs,i64_w,i32_w];rfl
            refine pure_ (i:=7) (N:=some 66) (v:=undef) (a':=?_) (zzB 19 255) rfl rfl (zzA2 HT_.out) (fun _ _ _ h=>h) (Or.inr ⟨by rfl,rfl⟩) ?_ ?_;rotate_left
            ·
             simp only [Act.put,zzq,zzr,zzs,i64_w,i32_w];rfl
            refine pure_ (i:=8) (N:=some 67) (v:=undef) (a':=?_) (zzB 19 511) rfl rfl (zzA2 HT_.out) (fun _ _ _ h=>h) (Or.inr ⟨by rfl,rfl⟩) ?_ ?_;rotate_left
            ·
             simp only [Act.put,zzq,zzr,zzs,i64_w,i32_w];rfl
            refine pure_ (i:=9) (N:=some 68) (v:=undef) (a':=?_) (zzB 19 1023) rfl rfl (zzA2 HT_.out) (fun _ _ _ h=>h) (Or.inr ⟨by rfl,rfl⟩) ?_ ?_;rotate_left
            ·
             simp only [Act.put,zzq,zzr,zzs,i64_w,i32_w];rfl
            refine pure_ (i:=10) (N:=some 69) (v:=undef) (a':=?_) (zzB 19 2047) rfl rfl (zzA2 HT_.out) (fun _ _ _ h=>h) (Or.inr ⟨by rfl,rfl⟩) ?_ ?_;rotate_left
            ·
             simp only [Act.put,zzq,zzr,zzs,i64_w,i32_w];rfl
            refine pure_ (i:=11) (N:=some 70) (v:=undef) (a':=?_) (zzB 19 4095) rfl rfl (zzA2 HT_.out) (fun _ _ _ h=>h) (Or.inr ⟨by rfl,rfl⟩) ?_ ?_;rotate_left
            ·
             simp only [Act.put,zzq,zzr,zzs,i64_w,i32_w];rfl
            refine pure_ (i:=12) (N:=some 71) (v:=undef) (a':=?_) (zzB 19 8191) rfl rfl (zzA2 HT_.out) (fun _ _ _ h=>h) (Or.inr ⟨by rfl,rfl⟩) ?_ ?_;rotate_left
            ·
             simp only [Act.put,zzq,zzr,zzs,i64_w,i32_w];rfl
            refine pure_ (i:=13) (N:=some 72) (v:=undef) (a':=?_) (zzB 19 16383) rfl rfl (zzA2 HT_.out) (fun _ _ _ h=>h) (Or.inr ⟨by rfl,rfl⟩) ?_ ?_;rotate_left
            ·
             simp only [Act.put,zzq,zzr,zzs,i64_w,i32_w];rfl
            refine pure_ (i:=14) (N:=some 73) (v:=undef) (a':=?_) (zzB 19 32767) rfl rfl (zzA2 HT_.out) (fun _ _ _ h=>h) (Or.inr ⟨by rfl,rfl⟩) ?_ ?_;rotate_left
            ·
             simp only [Act.put,zzq,zzr,zzs,i64_w,i32_w];rfl
            refine pure_ (i:=15) (N:=some 74) (v:=undef) (a':=?_) (zzB 19 65535) rfl rfl (zzA2 HT_.out) (fun _ _ _ h=>h) (Or.inr ⟨by rfl,rfl⟩) ?_ ?_;rotate_left
            ·
             simp only [Act.put,zzq,zzr,zzs,i64_w,i32_w];rfl
            refine pure_ (i:=16) (N:=some 75) (v:=undef) (a':=?_) (zzB 19 131071) rfl rfl (zzA2 HT_.out) (fun _ _ _ h=>h) (Or.inr ⟨by rfl,rfl⟩) ?_ ?_;rotate_left
            ·
             simp only [Act.put,zzq,zzr,zzs,i64_w,i32_w];rfl
            refine pure_ (i:=17) (N:=some 76) (v:=undef) (a':=?_) (zzB 19 262143) rfl rfl (zzA2 HT_.out) (fun _ _ _ h=>h) (Or.inr ⟨by rfl,rfl⟩) ?_ ?_;rotate_left
            ·
             simp only [Act.put,zzq,zzr,zzs,i64_w,i32_w];rfl
            refine pure_ (i:=18) (N:=some 77) (v:=?_) (a':=?_) (zzB 19 524287) rfl rfl (zzA2 HT_.out) (fun _ _ _ h=>h) (Or.inl ⟨by rfl,?_⟩) ?_ ?_;rotate_left
            ·
             intro w';go_simp;with_reducible rfl
            rotate_left
            ·
             simp only [Act.put,zzq,zzr,zzs,i64_w,i32_w];rfl
            refine done_ (done_of HT_.out (by kernel_rfl)) ?_;try go_wp2
            go_ret;exact ⟨by first|rfl|(simp [errW_none,errW_some] <;> rfl)|(simp [*,errW_none,errW_some] <;> rfl),by repeat (first|(with_reducible first|exact HB.out|apply zza|apply zzb|apply zzc|refine zzd ?_ GE256.out|refine zzd ?_ GE262.out)|exact HB.out)⟩
          ·
           rw [if_neg c34] at H;exact absurd H (by simp)
         ·
          rw [if_neg c33] at H;exact absurd H (by simp)
        ·
         rw [if_neg c32] at H;have c32b0:decide (x54_3 < (l0_5.length:Int))=false:=decide_eq_false c32;clear c32;obtain rfl:=Option.some.inj H;go_wp2;go_ret;exact ⟨by first|rfl|(simp [errW_none,errW_some] <;> rfl)|(simp [*,errW_none,errW_some] <;> rfl),by repeat (first|(with_reducible first|exact HB.out|apply zza|apply zzb|apply zzc|refine zzd ?_ GE256.out)|exact HB.out)⟩
def impl_LogValid.l0:Nat→List (S27)→List (S27)→Int→Int→Option (Bool)
 | 0,_,_,_,_=>none
 | k+1,x0,x8,x9,x10=>if x10 < x9 then (if 0≤x10 then (if x10 < (x8.length:Int) then ((impl_BatchValid.f k ((rd_T27 x8 x10).f0) ((rd_T27 x8 x10).f1) ((rd_T27 x8 x10).f2) ((rd_T27 x8 x10).f3) ((rd_T27 x8 x10).f4) ((rd_T27 x8 x10).f5)).bind fun t271=>(if t271=true then (if x10 > 0 then (if 0≤(wrap64 (x10 - 1)) then (if (wrap64 (x10 - 1)) < (x0.length:Int) then ((impl_Batch_last.f ((rd_T27 x0 (wrap64 (x10 - 1))).f0) ((rd_T27 x0 (wrap64 (x10 - 1))).f1) ((rd_T27 x0 (wrap64 (x10 - 1))).f2) ((rd_T27 x0 (wrap64 (x10 - 1))).f3) ((rd_T27 x0 (wrap64 (x10 - 1))).f4) ((rd_T27 x0 (wrap64 (x10 - 1))).f5)).bind fun t273=>((impl_Batch_first.f ((rd_T27 x8 x10).f0) ((rd_T27 x8 x10).f1) ((rd_T27 x8 x10).f2) ((rd_T27 x8 x10).f3) ((rd_T27 x8 x10).f4) ((rd_T27 x8 x10).f5)).bind fun t274=>(if t273 ≥ t274 then (some false) else (impl_LogValid.l0 k x0 x8 x9 (wrap64 (x10+1)))))) else (none)) else (none)) else (impl_LogValid.l0 k x0 x8 x9 (wrap64 (x10+1)))) else (some false))) else (none)) else (none)) else (some true)
def impl_LogValid.f (k:Nat) (l0:List (S27)):Option (Bool):=if (l0.length:Int) > 8 then (some false) else (impl_LogValid.l0 k l0 l0 (l0.length:Int) 0)
def impl_LogValid.T6:Bool×List (List Nat×List Nat):=(true,[([],[]),([0],[0]),([1],[1]),([2,1],[2]),([3],[3]),([4,3],[3,4]),([5,3,3],[3,5]),([6],[6]),([6],[6]),([8,6],[6,8]),([7,9,6],[6,7,9]),([10,6],[6,10]),([11,6,6],[6,11]),([6],[6]),([13,12,6],[6,13]),([12,14,6],[6,12,14]),([6,15,3],[3,6,15]),([3,16],[3,16])])
def impl_LogValid.B6:List Nat:=[0,1,3,7,15,31,63,127,127,383,1023,2047,4095,127,16383,32767,65535,131071]
theorem impl_LogValid.tab6:rtab .any (opsOf Try.f61 6)=impl_LogValid.T6:=by kernel_rfl
theorem impl_LogValid.bits6:waitsOk impl_LogValid.T6.2 impl_LogValid.B6=true:=by kernel_rfl
set_option maxHeartbeats 8000000 in
set_option maxRecDepth 100000 in
theorem impl_LogValid.calls (k:Nat) (A0:Option Addr) (c0:Nat) (l0:List (S27)) (r:Bool) (w:World) (hr0:Kd.C k27 w A0 l0.length l0) (hc0:l0.length≤c0) (h:impl_LogValid.f k l0=some r) :
  Calls Try.prog 61 #[.slice A0 l0.length c0] w fun e w'=>e = .returned (.bool r)∧Below w.heap.size w w':=by
 have hu27:=Try.underlying27;have HR0:=zzm hr0;have HC0:=zzm hc0;clear hr0 hc0;have HB:=zzm (Below.refl w.heap.size w);have H:(if (l0.length:Int) > 8 then (some false) else (impl_LogValid.l0 k l0 l0 (l0.length:Int) 0))=some r:=h;clear h;by_cases c2:(l0.length:Int) > 8
 ·
  rw [if_pos c2] at H;have c2b0:decide (8 < (l0.length:Int))=true:=decide_eq_true c2;have c2b1:decide (8 < l0.length)=true:=decide_eq_true (by omega);clear c2;obtain rfl:=Option.some.inj H;go_enter Try.func61,Try.ntmps61;go_wp2;go_ret;exact ⟨by first|rfl|(simp [errW_none,errW_some] <;> rfl)|(simp [*,errW_none,errW_some] <;> rfl),zzh1⟩
 ·
  rw [if_neg c2] at H;have c2b0:decide (8 < (l0.length:Int))=false:=decide_eq_false c2;have c2b1:decide (8 < l0.length)=false:=decide_eq_false (by omega);clear c2;have H':=zzm H;clear H;go_enter Try.func61,Try.ntmps61;go_wp2;go_loopg [10] k (fun kq v10 w'=>∃ (x10_1:Int),v10 = .int .i64 x10_1∧Aside0 (impl_LogValid.l0 kq l0 l0 (l0.length:Int) x10_1=some r)∧Aside0 (kq≤k)∧Aside0 (Below w.heap.size w w'))
  case atStart=>exact ⟨(0),(by first|rfl|(simp;done)|(simp [*];done)),H',⟨Nat.le_refl _⟩,⟨zzh1⟩⟩
  case round=>
   clear H';try clear c2
   try clear c2b0
   try clear c2b1
   try clear p2
   obtain ⟨x10_1,rfl,HA,HK1,HB⟩:=hrel;cases gk with
   | zero=>exact absurd HA.out (by simp [impl_LogValid.l0])
   | succ k1=>
    have H:=HA.out;clear HA;simp only [impl_LogValid.l0] at H;by_cases c3:x10_1 < (l0.length:Int)
    ·
     rw [if_pos c3] at H;have c3b0:decide (x10_1 < (l0.length:Int))=true:=decide_eq_true c3;clear c3;by_cases c4 : 0≤x10_1
     ·
      rw [if_pos c4] at H;have c4b0:decide (0≤x10_1)=true:=decide_eq_true c4;clear c4;by_cases c5:x10_1 < (l0.length:Int)
      ·
       rw [if_pos c5] at H;have c5b0:decide (x10_1 < (l0.length:Int))=true:=decide_eq_true c5;clear c5;replace H:=Option.bind_eq_some_iff.mp H;obtain ⟨t271,A60,H⟩:=H;replace H:(if t271=true then (if x10_1 > 0 then (if 0≤(wrap64 (x10_1 - 1)) then (if (wrap64 (x10_1 - 1)) < (l0.length:Int) then ((impl_Batch_last.f ((rd_T27 l0 (wrap64 (x10_1 - 1))).f0) ((rd_T27 l0 (wrap64 (x10_1 - 1))).f1) ((rd_T27 l0 (wrap64 (x10_1 - 1))).f2) ((rd_T27 l0 (wrap64 (x10_1 - 1))).f3) ((rd_T27 l0 (wrap64 (x10_1 - 1))).f4) ((rd_T27 l0 (wrap64 (x10_1 - 1))).f5)).bind fun t273=>((impl_Batch_first.f ((rd_T27 l0 x10_1).f0) ((rd_T27 l0 x10_1).f1) ((rd_T27 l0 x10_1).f2) ((rd_T27 l0 x10_1).f3) ((rd_T27 l0 x10_1).f4) ((rd_T27 l0 x10_1).f5)).bind fun t274=>(if t273 ≥ t274 then (some false) else (impl_LogValid.l0 k1 l0 l0 (l0.length:Int) (wrap64 (x10_1+1)))))) else (none)) else (none)) else (impl_LogValid.l0 k1 l0 l0 (l0.length:Int) (wrap64 (x10_1+1)))) else (some false))=some r:=H;have A6:=zzm A60;clear A60;by_cases c7:t271=true
       ·
        subst c7;have H1:(if x10_1 > 0 then (if 0≤(wrap64 (x10_1 - 1)) then (if (wrap64 (x10_1 - 1)) < (l0.length:Int) then ((impl_Batch_last.f ((rd_T27 l0 (wrap64 (x10_1 - 1))).f0) ((rd_T27 l0 (wrap64 (x10_1 - 1))).f1) ((rd_T27 l0 (wrap64 (x10_1 - 1))).f2) ((rd_T27 l0 (wrap64 (x10_1 - 1))).f3) ((rd_T27 l0 (wrap64 (x10_1 - 1))).f4) ((rd_T27 l0 (wrap64 (x10_1 - 1))).f5)).bind fun t273=>((impl_Batch_first.f ((rd_T27 l0 x10_1).f0) ((rd_T27 l0 x10_1).f1) ((rd_T27 l0 x10_1).f2) ((rd_T27 l0 x10_1).f3) ((rd_T27 l0 x10_1).f4) ((rd_T27 l0 x10_1).f5)).bind fun t274=>(if t273 ≥ t274 then (some false) else (impl_LogValid.l0 k1 l0 l0 (l0.length:Int) (wrap64 (x10_1+1)))))) else (none)) else (none)) else (impl_LogValid.l0 k1 l0 l0 (l0.length:Int) (wrap64 (x10_1+1))))=some r:=by rw [if_pos rfl] at H;exact H
        clear H;have H:=H1;clear H1;by_cases c8:x10_1 > 0
        ·
         rw [if_pos c8] at H;have c8b0:decide (0 < x10_1)=true:=decide_eq_true c8;clear c8;obtain ⟨ji9,hji9⟩:∃ j_:Int,(wrap64 (x10_1 - 1))=j_:=⟨_,rfl⟩;replace H:(if 0≤(ji9) then (if (ji9) < (l0.length:Int) then ((impl_Batch_last.f ((rd_T27 l0 (ji9)).f0) ((rd_T27 l0 (ji9)).f1) ((rd_T27 l0 (ji9)).f2) ((rd_T27 l0 (ji9)).f3) ((rd_T27 l0 (ji9)).f4) ((rd_T27 l0 (ji9)).f5)).bind fun t273=>((impl_Batch_first.f ((rd_T27 l0 x10_1).f0) ((rd_T27 l0 x10_1).f1) ((rd_T27 l0 x10_1).f2) ((rd_T27 l0 x10_1).f3) ((rd_T27 l0 x10_1).f4) ((rd_T27 l0 x10_1).f5)).bind fun t274=>(if t273 ≥ t274 then (some false) else (impl_LogValid.l0 k1 l0 l0 (l0.length:Int) (wrap64 (x10_1+1)))))) else (none)) else (none))=some r:=by first|(rw [hji9] at H;exact H)|(simp only [hji9] at H ⊢;exact H)
         (try rw [hji9] at A6);have hji9w:(IntKind.i64.wrap (x10_1 - 1))=ji9:=(i64_w _).trans hji9;by_cases c10 : 0≤(ji9)
         ·
          rw [if_pos c10] at H;have c10b0:decide (0≤(ji9))=true:=decide_eq_true c10;clear c10;by_cases c11:(ji9) < (l0.length:Int)
          ·
           rw [if_pos c11] at H;have c11b0:decide ((ji9) < (l0.length:Int))=true:=decide_eq_true c11;clear c11;replace H:=Option.bind_eq_some_iff.mp H;obtain ⟨t273,A120,H⟩:=H;replace H:((impl_Batch_first.f ((rd_T27 l0 x10_1).f0) ((rd_T27 l0 x10_1).f1) ((rd_T27 l0 x10_1).f2) ((rd_T27 l0 x10_1).f3) ((rd_T27 l0 x10_1).f4) ((rd_T27 l0 x10_1).f5)).bind fun t274=>(if t273 ≥ t274 then (some false) else (impl_LogValid.l0 k1 l0 l0 (l0.length:Int) (wrap64 (x10_1+1)))))=some r:=H;have A12:=zzm A120;clear A120;replace H:=Option.bind_eq_some_iff.mp H;obtain ⟨t274,A130,H⟩:=H;replace H:(if t273 ≥ t274 then (some false) else (impl_LogValid.l0 k1 l0 l0 (l0.length:Int) (wrap64 (x10_1+1))))=some r:=H;have A13:=zzm A130;clear A130;by_cases c14:t273 ≥ t274
           ·
            rw [if_pos c14] at H;have c14b0:decide (t274≤t273)=true:=decide_eq_true c14;clear c14;obtain rfl:=Option.some.inj H;have p269 : 0≤(x10_1:Int):=zzt;have q269:x10_1 < (l0.length:Int):=zzt;obtain ⟨ad269,A269_5,c269_5,e269,hx269_0,hx269_1,hx269_2,hx269_3,hx269_4,hx269_5,hl269_5,hi269_5⟩:=at_T27 HR0.out x10_1 p269 q269;cases e269;replace hx269_0:=zzx HB.out hx269_0;replace hx269_1:=zzx HB.out hx269_1;replace hx269_2:=zzx HB.out hx269_2;replace hx269_3:=zzx HB.out hx269_3;replace hx269_4:=zzx HB.out hx269_4;replace hx269_5:=zzx HB.out hx269_5;have HR269_5:=zzm hi269_5;have HC269_5:=zzm hl269_5;clear hi269_5 hl269_5;replace p269:=eq_true p269;replace q269:=eq_true q269;try go_wp2_with (first|((with_reducible refine gate_dst (N:=4) rfl ?_);refine box_event ?hg (N:=4) ?hd (cs:=#[.bool false,.bool false,.int .i64 0,.int .i64 0,.int .i64 0,.slice none 0 0]) (t:=27) ?hr ?_;(case hd=>rfl);(case hg=>rfl);(case hr=>first|(go_simp;done)|(go_simp;rfl));intro gb270 hg w15 hbox hb;have n0_:=zzm (zzp zzh1 hb);have n1_:=zzm (hbox);have n2_:=zzm ((by rw [hg];exact (zzo zzh1):w.heap.size≤gb270));have n3_:=zzm ((by rw [hg];exact (zzo zzh1):w.heap.size≤gb270));clear HB;have HB:=n0_;have BK270:=n1_;have GW270:=n2_;have GE270:=n3_;clear n0_ n1_ n2_ n3_ hb hbox hg;obtain ⟨hcz16_0,hcz16_1,hcz16_2,hcz16_3,hcz16_4,hcz16_5,hfz16_0,hfz16_1,hfz16_2,hfz16_3,hfz16_4,hfz16_5⟩:=zzc6 BK270.out))
            have n0_:Aside0 (((((((w15.setCell ⟨gb270,0,none⟩ (.bool ((rd_T27 l0 x10_1).f0))).setCell ⟨gb270,1,none⟩ (.bool ((rd_T27 l0 x10_1).f1))).setCell ⟨gb270,2,none⟩ (.int .i64 ((rd_T27 l0 x10_1).f2))).setCell ⟨gb270,3,none⟩ (.int .i64 ((rd_T27 l0 x10_1).f3))).setCell ⟨gb270,4,none⟩ (.int .i64 ((rd_T27 l0 x10_1).f4))).setCell ⟨gb270,5,none⟩ (.slice A269_5 ((rd_T27 l0 x10_1).f5).length c269_5)).heap[gb270]? = some (.cells #[.bool ((rd_T27 l0 x10_1).f0),.bool ((rd_T27 l0 x10_1).f1),.int .i64 ((rd_T27 l0 x10_1).f2),.int .i64 ((rd_T27 l0 x10_1).f3),.int .i64 ((rd_T27 l0 x10_1).f4),.slice A269_5 ((rd_T27 l0 x10_1).f5).length c269_5] 27 (0,0))):=⟨by (with_reducible repeat (first|apply zzf|apply zzg|apply zze));refine zzi (cs:=#[.bool ((rd_T27 l0 x10_1).f0),.bool ((rd_T27 l0 x10_1).f1),.int .i64 ((rd_T27 l0 x10_1).f2),.int .i64 ((rd_T27 l0 x10_1).f3),.int .i64 ((rd_T27 l0 x10_1).f4),.slice none 0 0]) ?_ 5 _ rfl;(with_reducible repeat (first|apply zzf|apply zzg|apply zze));refine zzi (cs:=#[.bool ((rd_T27 l0 x10_1).f0),.bool ((rd_T27 l0 x10_1).f1),.int .i64 ((rd_T27 l0 x10_1).f2),.int .i64 ((rd_T27 l0 x10_1).f3),.int .i64 0,.slice none 0 0]) ?_ 4 _ rfl;(with_reducible repeat (first|apply zzf|apply zzg|apply zze));refine zzi (cs:=#[.bool ((rd_T27 l0 x10_1).f0),.bool ((rd_T27 l0 x10_1).f1),.int .i64 ((rd_T27 l0 x10_1).f2),.int .i64 0,.int .i64 0,.slice none 0 0]) ?_ 3 _ rfl;(with_reducible repeat (first|apply zzf|apply zzg|apply zze));refine zzi (cs:=#[.bool ((rd_T27 l0 x10_1).f0),.bool ((rd_T27 l0 x10_1).f1),.int .i64 0,.int .i64 0,.int .i64 0,.slice none 0 0]) ?_ 2 _ rfl;(with_reducible repeat (first|apply zzf|apply zzg|apply zze));refine zzi (cs:=#[.bool ((rd_T27 l0 x10_1).f0),.bool false,.int .i64 0,.int .i64 0,.int .i64 0,.slice none 0 0]) ?_ 1 _ rfl;(with_reducible repeat (first|apply zzf|apply zzg|apply zze));refine zzi (cs:=#[.bool false,.bool false,.int .i64 0,.int .i64 0,.int .i64 0,.slice none 0 0]) ?_ 0 _ rfl;(with_reducible repeat (first|apply zzf|apply zzg|apply zze));exact BK270.out⟩;have n1_:Aside0 (Below w.heap.size w ((((((w15.setCell ⟨gb270,0,none⟩ (.bool ((rd_T27 l0 x10_1).f0))).setCell ⟨gb270,1,none⟩ (.bool ((rd_T27 l0 x10_1).f1))).setCell ⟨gb270,2,none⟩ (.int .i64 ((rd_T27 l0 x10_1).f2))).setCell ⟨gb270,3,none⟩ (.int .i64 ((rd_T27 l0 x10_1).f3))).setCell ⟨gb270,4,none⟩ (.int .i64 ((rd_T27 l0 x10_1).f4))).setCell ⟨gb270,5,none⟩ (.slice A269_5 ((rd_T27 l0 x10_1).f5).length c269_5))):=⟨by repeat (first|(with_reducible first|exact HB.out|apply zza|apply zzb|apply zzc|refine zzd ?_ GE270.out)|exact HB.out)⟩;(try clear BK270);(try clear HB);generalize ((((((w15.setCell ⟨gb270,0,none⟩ (.bool ((rd_T27 l0 x10_1).f0))).setCell ⟨gb270,1,none⟩ (.bool ((rd_T27 l0 x10_1).f1))).setCell ⟨gb270,2,none⟩ (.int .i64 ((rd_T27 l0 x10_1).f2))).setCell ⟨gb270,3,none⟩ (.int .i64 ((rd_T27 l0 x10_1).f3))).setCell ⟨gb270,4,none⟩ (.int .i64 ((rd_T27 l0 x10_1).f4))).setCell ⟨gb270,5,none⟩ (.slice A269_5 ((rd_T27 l0 x10_1).f5).length c269_5))=w17 at n0_ n1_ ⊢;have BK270:=n0_;have HB:=n1_;clear n0_ n1_;have n0_:=zzm (zzg BK270.out);have n1_:=zzm (zzc HB.out);clear BK270 HB;have BK270:=n0_;have HB:=n1_;clear n0_ n1_;have p272 : 0≤((ji9):Int):=zzt;have q272:(ji9) < (l0.length:Int):=zzt;obtain ⟨ad272,A272_5,c272_5,e272,hx272_0,hx272_1,hx272_2,hx272_3,hx272_4,hx272_5,hl272_5,hi272_5⟩:=at_T27 HR0.out (ji9) p272 q272;have hw272_5:=hx272_5;have hw272_4:=hx272_4;have hw272_3:=hx272_3;have hw272_2:=hx272_2;have hw272_1:=hx272_1;have hw272_0:=hx272_0;obtain rfl:ad269=ad272:=(by injection e272);replace hx272_0:=zzx HB.out hx272_0;replace hx272_1:=zzx HB.out hx272_1;replace hx272_2:=zzx HB.out hx272_2;replace hx272_3:=zzx HB.out hx272_3;replace hx272_4:=zzx HB.out hx272_4;replace hx272_5:=zzx HB.out hx272_5;have HR272_5:=zzm hi272_5;have HC272_5:=zzm hl272_5;clear hi272_5 hl272_5;replace p272:=eq_true p272;replace q272:=eq_true q272;refine start_ (n:=18) (S:=fun w'=>w'.cell? ⟨gb270,0,none⟩=some (.bool ((rd_T27 l0 x10_1).f0))∧w'.cell? ⟨gb270,1,none⟩=some (.bool ((rd_T27 l0 x10_1).f1))∧w'.cell? ⟨gb270,2,none⟩=some (.int .i64 ((rd_T27 l0 x10_1).f2))∧w'.cell? ⟨gb270,3,none⟩=some (.int .i64 ((rd_T27 l0 x10_1).f3))∧w'.cell? ⟨gb270,4,none⟩=some (.int .i64 ((rd_T27 l0 x10_1).f4))∧w'.cell? ⟨gb270,5,none⟩=some (.slice A269_5 ((rd_T27 l0 x10_1).f5).length c269_5)∧w'.cell? (ad269.add (((ji9)).toNat * 6))=some (.bool ((rd_T27 l0 (ji9)).f0))∧w'.cell? ⟨(ad269.add (((ji9)).toNat * 6)).block,(ad269.add (((ji9)).toNat * 6)).off+1,none⟩=some (.bool ((rd_T27 l0 (ji9)).f1))∧w'.cell? ⟨(ad269.add (((ji9)).toNat * 6)).block,(ad269.add (((ji9)).toNat * 6)).off+2,none⟩=some (.int .i64 ((rd_T27 l0 (ji9)).f2))∧w'.cell? ⟨(ad269.add (((ji9)).toNat * 6)).block,(ad269.add (((ji9)).toNat * 6)).off+3,none⟩=some (.int .i64 ((rd_T27 l0 (ji9)).f3))∧w'.cell? ⟨(ad269.add (((ji9)).toNat * 6)).block,(ad269.add (((ji9)).toNat * 6)).off+4,none⟩=some (.int .i64 ((rd_T27 l0 (ji9)).f4))∧w'.cell? ⟨(ad269.add (((ji9)).toNat * 6)).block,(ad269.add (((ji9)).toNat * 6)).off+5,none⟩=some (.slice A272_5 ((rd_T27 l0 (ji9)).f5).length c272_5)) (ds:=[]) (zzB 18 0) (by kernel_rfl) rfl rfl ⟨(zzk BK270.out 0).trans rfl,(zzk BK270.out 1).trans rfl,(zzk BK270.out 2).trans rfl,(zzk BK270.out 3).trans rfl,(zzk BK270.out 4).trans rfl,(zzk BK270.out 5).trans rfl,(zzx HB.out hw272_0),(zzx HB.out hw272_1),(zzx HB.out hw272_2),(zzx HB.out hw272_3),(zzx HB.out hw272_4),(zzx HB.out hw272_5)⟩ (fun hHeld=>?_);refine with_tabW impl_LogValid.tab6 impl_LogValid.bits6 (fun HT_ HW_=>?_);generalize w17.drew=w18 at BK270 HB HR272_5 hx272_0 hx272_1 hx272_2 hx272_3 hx272_4 hx272_5 hHeld ⊢;refine take_ (i:=0) (N:=some 15) (v:=?_) (a':=?_) (zzB 18 1) rfl rfl (take_ofW HT_.out HW_.out (by kernel_rfl)) (fun _ _ _ h=>h) (Or.inl ⟨by rfl,?_⟩) hHeld ?_ ?_;rotate_left
            ·
             rintro w' ⟨s0,s1,s2,s3,s4,s5,s6,s7,s8,s9,s10,s11⟩;go_simp;with_reducible rfl
            rotate_left
            ·
             simp only [Act.put,zzq,zzr,zzs,i64_w,i32_w];rfl
            refine one_ (i:=1) (N:=some 16) (zzB 18 3) rfl rfl (one_of HT_.out (by kernel_rfl)) (by decide) (fun K hK=>?_);refine goes_ Try.func22 (by kernel_rfl) rfl #[.agg #[.bool ((rd_T27 l0 x10_1).f0),.bool ((rd_T27 l0 x10_1).f1),.int .i64 ((rd_T27 l0 x10_1).f2),.int .i64 ((rd_T27 l0 x10_1).f3),.int .i64 ((rd_T27 l0 x10_1).f4),.slice A269_5 ((rd_T27 l0 x10_1).f5).length c269_5]] (by rfl) rfl rfl zzM2 ?_;with_reducible refine (impl_BatchValid.calls k1 ((rd_T27 l0 x10_1).f0) ((rd_T27 l0 x10_1).f1) ((rd_T27 l0 x10_1).f2) ((rd_T27 l0 x10_1).f3) ((rd_T27 l0 x10_1).f4) _ _ ((rd_T27 l0 x10_1).f5) true _ ?side1 ?side2 A6.out).mono ?_;(case side1=>repeat (first|exact (Kd.C_below HR269_5.out HB.out)|(with_reducible refine Kd.C_alloc ?_ _)|(with_reducible refine Kd.C_drewN ?_ _)|(with_reducible refine Kd.C_drew ?_)));(case side2=>exact HC269_5.out);rintro e w19 ⟨rfl,hb⟩;refine ⟨_,rfl,?_⟩;have n0_:=zzm (zzh (g:=gb270) (o:=.cells #[.bool ((rd_T27 l0 x10_1).f0),.bool ((rd_T27 l0 x10_1).f1),.int .i64 ((rd_T27 l0 x10_1).f2),.int .i64 ((rd_T27 l0 x10_1).f3),.int .i64 ((rd_T27 l0 x10_1).f4),.slice A269_5 ((rd_T27 l0 x10_1).f5).length c269_5] 27 (0,0)) (zzE BK270.out) hb);have n1_:=zzm (zzp zzh2 hb);clear BK270 HB;have BK270:=n0_;have HB:=n1_;clear n0_ n1_;(try clear hb);(try clear hb2);(try clear hk);(try clear hi);refine hK.out _ _ ⟨(zzk BK270.out 0).trans rfl,(zzk BK270.out 1).trans rfl,(zzk BK270.out 2).trans rfl,(zzk BK270.out 3).trans rfl,(zzk BK270.out 4).trans rfl,(zzk BK270.out 5).trans rfl,(zzx HB.out hw272_0),(zzx HB.out hw272_1),(zzx HB.out hw272_2),(zzx HB.out hw272_3),(zzx HB.out hw272_4),(zzx HB.out hw272_5)⟩ (fun hHeld=>?_);clear hK K;refine norm_ (a':=?_) ?_ ?_;rotate_left
            ·
             show Act.put _ (some 16) _ = _;simp only [Act.put,zzq,zzr,zzs,i64_w,i32_w];rfl
            refine pure_ (i:=2) (N:=some 17) (v:=?_) (a':=?_) (zzB 18 7) rfl rfl (zzA2 HT_.out) (fun _ _ _ h=>h) (Or.inl ⟨by rfl,?_⟩) ?_ ?_;rotate_left
            ·
             intro w';go_simp;with_reducible rfl
            rotate_left
            ·
             simp only [Act.put,zzq,zzr,zzs,i64_w,i32_w];rfl
            refine pure_ (i:=3) (N:=some 18) (v:=?_) (a':=?_) (zzB 18 15) rfl rfl (zzA2 HT_.out) (fun _ _ _ h=>h) (Or.inl ⟨by rfl,?_⟩) ?_ ?_;rotate_left
            ·
             intro w';go_simp;with_reducible rfl
            rotate_left
            ·
             simp only [Act.put,zzq,zzr,zzs,i64_w,i32_w];rfl
            refine pure_ (i:=4) (N:=some 19) (v:=?_) (a':=?_) (zzB 18 31) rfl rfl (zzA2 HT_.out) (fun _ _ _ h=>h) (Or.inl ⟨by rfl,?_⟩) ?_ ?_;rotate_left
            ·
             intro w';go_simp;with_reducible rfl
            rotate_left
            ·
             simp only [Act.put,zzq,zzr,zzs,i64_w,i32_w];rfl
            refine pure_ (i:=5) (N:=some 20) (v:=?_) (a':=?_) (zzB 18 63) rfl rfl (zzA2 HT_.out) (fun _ _ _ h=>h) (Or.inl ⟨by rfl,?_⟩) ?_ ?_;rotate_left
            ·
             intro w';go_simp;with_reducible rfl
            rotate_left
            ·
             simp only [Act.put,zzq,zzr,zzs,i64_w,i32_w];rfl
            refine pure_ (i:=6) (N:=some 21) (v:=?_) (a':=?_) (zzB 18 127) rfl rfl (zzA2 HT_.out) (fun _ _ _ h=>h) (Or.inl ⟨by rfl,?_⟩) ?_ ?_;rotate_left
            ·
             intro w';go_simp;with_reducible rfl
            rotate_left
            ·
             simp only [Act.put,zzq,zzr,zzs,i64_w,i32_w];rfl
            refine pure_ (i:=7) (N:=some 22) (v:=?_) (a':=?_) (zzB 18 255) rfl rfl (zzA2 HT_.out) (fun _ _ _ h=>h) (Or.inl ⟨by rfl,?_⟩) ?_ ?_;rotate_left
            ·
             intro w';go_simp;with_reducible rfl
            rotate_left
            ·
             simp only [Act.put,zzq,zzr,zzs,i64_w,i32_w];rfl
            refine pure_ (i:=8) (N:=some 23) (v:=?_) (a':=?_) (zzB 18 511) rfl rfl (zzA2 HT_.out) (fun _ _ _ h=>h) (Or.inl ⟨by rfl,?_⟩) ?_ ?_;rotate_left
            ·
             intro w';go_simp;with_reducible rfl
            rotate_left
            ·
             simp only [Act.put,zzq,zzr,zzs,i64_w,i32_w];rfl
            refine pure_ (i:=9) (N:=some 24) (v:=?_) (a':=?_) (zzB 18 1023) rfl rfl (zzA2 HT_.out) (fun _ _ _ h=>h) (Or.inl ⟨by rfl,?_⟩) ?_ ?_;rotate_left
            ·
             intro w';go_simp;with_reducible rfl
            rotate_left
            ·
             simp only [Act.put,zzq,zzr,zzs,i64_w,i32_w];rfl
            refine pure_ (i:=10) (N:=some 25) (v:=?_) (a':=?_) (zzB 18 2047) rfl rfl (zzA2 HT_.out) (fun _ _ _ h=>h) (Or.inl ⟨by rfl,?_⟩) ?_ ?_;rotate_left
            ·
             intro w';go_simp;with_reducible rfl
            rotate_left
            ·
             simp only [Act.put,zzq,zzr,zzs,i64_w,i32_w];rfl
            refine take_ (i:=11) (N:=some 26) (v:=?_) (a':=?_) (zzB 18 4095) rfl rfl (take_ofW HT_.out HW_.out (by kernel_rfl)) (fun _ _ _ h=>h) (Or.inl ⟨by rfl,?_⟩) hHeld ?_ ?_;rotate_left
            ·
             rintro w' ⟨s0,s1,s2,s3,s4,s5,s6,s7,s8,s9,s10,s11⟩;go_simp;with_reducible rfl
            rotate_left
            ·
             simp only [Act.put,zzq,zzr,zzs,i64_w,i32_w];rfl
            refine take_ (i:=13) (N:=some 28) (v:=?_) (a':=?_) (zzB 18 12287) rfl rfl (take_ofW HT_.out HW_.out (by kernel_rfl)) (fun _ _ _ h=>h) (Or.inl ⟨by rfl,?_⟩) hHeld ?_ ?_;rotate_left
            ·
             rintro w' ⟨s0,s1,s2,s3,s4,s5,s6,s7,s8,s9,s10,s11⟩;go_simp;with_reducible rfl
            rotate_left
            ·
             simp only [Act.put,zzq,zzr,zzs,i64_w,i32_w];rfl
            refine one_ (i:=12) (N:=some 27) (zzB 18 16383) rfl rfl (one_of HT_.out (by kernel_rfl)) (by decide) (fun K hK=>?_);refine goes_ Try.func65 (by kernel_rfl) rfl #[.agg #[.bool ((rd_T27 l0 (ji9)).f0),.bool ((rd_T27 l0 (ji9)).f1),.int .i64 ((rd_T27 l0 (ji9)).f2),.int .i64 ((rd_T27 l0 (ji9)).f3),.int .i64 ((rd_T27 l0 (ji9)).f4),.slice A272_5 ((rd_T27 l0 (ji9)).f5).length c272_5]] (by rfl) rfl rfl (by (try simp only [map_toArray,map_cons,map_nil]);first|done|(simp only [hji9];rfl)|rfl|(simp only [length_drop,length_take];rfl)) ?_;with_reducible refine (impl_Batch_last.calls ((rd_T27 l0 (ji9)).f0) ((rd_T27 l0 (ji9)).f1) ((rd_T27 l0 (ji9)).f2) ((rd_T27 l0 (ji9)).f3) ((rd_T27 l0 (ji9)).f4) _ _ ((rd_T27 l0 (ji9)).f5) t273 _ ?side1 ?side2 A12.out).mono ?_;(case side1=>repeat (first|exact (Kd.C_below HR272_5.out HB.out)|(with_reducible refine Kd.C_alloc ?_ _)|(with_reducible refine Kd.C_drewN ?_ _)|(with_reducible refine Kd.C_drew ?_)));(case side2=>exact HC272_5.out);rintro e w20 ⟨rfl,hb⟩;refine ⟨_,rfl,?_⟩;have n0_:=zzm (zzh (g:=gb270) (o:=.cells #[.bool ((rd_T27 l0 x10_1).f0),.bool ((rd_T27 l0 x10_1).f1),.int .i64 ((rd_T27 l0 x10_1).f2),.int .i64 ((rd_T27 l0 x10_1).f3),.int .i64 ((rd_T27 l0 x10_1).f4),.slice A269_5 ((rd_T27 l0 x10_1).f5).length c269_5] 27 (0,0)) (zzE BK270.out) hb);have n1_:=zzm (zzp zzh2 hb);clear BK270 HB;have BK270:=n0_;have HB:=n1_;clear n0_ n1_;(try clear hb);(try clear hb2);(try clear hk);(try clear hi);refine hK.out _ _ ⟨(zzk BK270.out 0).trans rfl,(zzk BK270.out 1).trans rfl,(zzk BK270.out 2).trans rfl,(zzk BK270.out 3).trans rfl,(zzk BK270.out 4).trans rfl,(zzk BK270.out 5).trans rfl,(zzx HB.out hw272_0),(zzx HB.out hw272_1),(zzx HB.out hw272_2),(zzx HB.out hw272_3),(zzx HB.out hw272_4),(zzx HB.out hw272_5)⟩ (fun hHeld=>?_);clear hK K;refine norm_ (a':=?_) ?_ ?_;rotate_left
            ·
             show Act.put _ (some 27) _ = _;simp only [Act.put,zzq,zzr,zzs,i64_w,i32_w];rfl
            refine one_ (i:=14) (N:=some 29) (zzB 18 32767) rfl rfl (one_of HT_.out (by kernel_rfl)) (by decide) (fun K hK=>?_);refine goes_ Try.func63 (by kernel_rfl) rfl #[.agg #[.bool ((rd_T27 l0 x10_1).f0),.bool ((rd_T27 l0 x10_1).f1),.int .i64 ((rd_T27 l0 x10_1).f2),.int .i64 ((rd_T27 l0 x10_1).f3),.int .i64 ((rd_T27 l0 x10_1).f4),.slice A269_5 ((rd_T27 l0 x10_1).f5).length c269_5]] (by rfl) rfl rfl zzM2 ?_;with_reducible refine (impl_Batch_first.calls ((rd_T27 l0 x10_1).f0) ((rd_T27 l0 x10_1).f1) ((rd_T27 l0 x10_1).f2) ((rd_T27 l0 x10_1).f3) ((rd_T27 l0 x10_1).f4) _ _ ((rd_T27 l0 x10_1).f5) t274 _ ?side1 ?side2 A13.out).mono ?_;(case side1=>repeat (first|exact (Kd.C_below HR269_5.out HB.out)|(with_reducible refine Kd.C_alloc ?_ _)|(with_reducible refine Kd.C_drewN ?_ _)|(with_reducible refine Kd.C_drew ?_)));(case side2=>exact HC269_5.out);rintro e w21 ⟨rfl,hb⟩;refine ⟨_,rfl,?_⟩;have n0_:=zzm (zzh (g:=gb270) (o:=.cells #[.bool ((rd_T27 l0 x10_1).f0),.bool ((rd_T27 l0 x10_1).f1),.int .i64 ((rd_T27 l0 x10_1).f2),.int .i64 ((rd_T27 l0 x10_1).f3),.int .i64 ((rd_T27 l0 x10_1).f4),.slice A269_5 ((rd_T27 l0 x10_1).f5).length c269_5] 27 (0,0)) (zzE BK270.out) hb);have n1_:=zzm (zzp zzh2 hb);clear BK270 HB;have BK270:=n0_;have HB:=n1_;clear n0_ n1_;(try clear hb);(try clear hb2);(try clear hk);(try clear hi);refine hK.out _ _ ⟨(zzk BK270.out 0).trans rfl,(zzk BK270.out 1).trans rfl,(zzk BK270.out 2).trans rfl,(zzk BK270.out 3).trans rfl,(zzk BK270.out 4).trans rfl,(zzk BK270.out 5).trans rfl,(zzx HB.out hw272_0),(zzx HB.out hw272_1),(zzx HB.out hw272_2),(zzx HB.out hw272_3),(zzx HB.out hw272_4),(zzx HB.out hw272_5)⟩ (fun hHeld=>?_);clear hK K;refine norm_ (a':=?_) ?_ ?_;rotate_left
            ·
             show Act.put _ (some 29) _ = _;simp only [Act.put,zzq,zzr,zzs,i64_w,i32_w];rfl
            refine pure_ (i:=15) (N:=some 30) (v:=?_) (a':=?_) (zzB 18 65535) rfl rfl (zzA2 HT_.out) (fun _ _ _ h=>h) (Or.inl ⟨by rfl,?_⟩) ?_ ?_;rotate_left
            ·
             intro w';go_simp;with_reducible rfl
            rotate_left
            ·
             simp only [Act.put,zzq,zzr,zzs,i64_w,i32_w];rfl
            refine pure_ (i:=16) (N:=some 31) (v:=?_) (a':=?_) (zzB 18 131071) rfl rfl (zzA2 HT_.out) (fun _ _ _ h=>h) (Or.inl ⟨by rfl,?_⟩) ?_ ?_;rotate_left
            ·
             intro w';go_simp;with_reducible rfl
            rotate_left
            ·
             simp only [Act.put,zzq,zzr,zzs,i64_w,i32_w];rfl
            refine pure_ (i:=17) (N:=some 32) (v:=?_) (a':=?_) (zzB 18 262143) rfl rfl (zzA2 HT_.out) (fun _ _ _ h=>h) (Or.inl ⟨by rfl,?_⟩) ?_ ?_;rotate_left
            ·
             intro w';go_simp;with_reducible rfl
            rotate_left
            ·
             simp only [Act.put,zzq,zzr,zzs,i64_w,i32_w];rfl
            refine done_ (done_of HT_.out (by kernel_rfl)) ?_;try go_wp2
            go_ret;exact ⟨by first|rfl|(simp [errW_none,errW_some] <;> rfl)|(simp only [← hji9];first|rfl|(simp [errW_none,errW_some] <;> rfl))|(simp [*,errW_none,errW_some] <;> rfl),by repeat (first|(with_reducible first|exact HB.out|apply zza|apply zzb|apply zzc|refine zzd ?_ GE270.out)|exact HB.out)⟩
           ·
            rw [if_neg c14] at H;have c14b0:decide (t274≤t273)=false:=decide_eq_false c14;clear c14;have H':=zzm H;clear H;have p269 : 0≤(x10_1:Int):=zzt;have q269:x10_1 < (l0.length:Int):=zzt;obtain ⟨ad269,A269_5,c269_5,e269,hx269_0,hx269_1,hx269_2,hx269_3,hx269_4,hx269_5,hl269_5,hi269_5⟩:=at_T27 HR0.out x10_1 p269 q269;cases e269;replace hx269_0:=zzx HB.out hx269_0;replace hx269_1:=zzx HB.out hx269_1;replace hx269_2:=zzx HB.out hx269_2;replace hx269_3:=zzx HB.out hx269_3;replace hx269_4:=zzx HB.out hx269_4;replace hx269_5:=zzx HB.out hx269_5;have HR269_5:=zzm hi269_5;have HC269_5:=zzm hl269_5;clear hi269_5 hl269_5;replace p269:=eq_true p269;replace q269:=eq_true q269;try go_wp2_with (first|((with_reducible refine gate_dst (N:=4) rfl ?_);refine box_event ?hg (N:=4) ?hd (cs:=#[.bool false,.bool false,.int .i64 0,.int .i64 0,.int .i64 0,.slice none 0 0]) (t:=27) ?hr ?_;(case hd=>rfl);(case hg=>rfl);(case hr=>first|(go_simp;done)|(go_simp;rfl));intro gb270 hg w22 hbox hb;have n0_:=zzm (zzp zzh1 hb);have n1_:=zzm (hbox);have n2_:=zzm ((by rw [hg];exact (zzo zzh1):w.heap.size≤gb270));have n3_:=zzm ((by rw [hg];exact (zzo zzh1):w.heap.size≤gb270));clear HB;have HB:=n0_;have BK270:=n1_;have GW270:=n2_;have GE270:=n3_;clear n0_ n1_ n2_ n3_ hb hbox hg;obtain ⟨hcz23_0,hcz23_1,hcz23_2,hcz23_3,hcz23_4,hcz23_5,hfz23_0,hfz23_1,hfz23_2,hfz23_3,hfz23_4,hfz23_5⟩:=zzc6 BK270.out))
            have n0_:Aside0 (((((((w22.setCell ⟨gb270,0,none⟩ (.bool ((rd_T27 l0 x10_1).f0))).setCell ⟨gb270,1,none⟩ (.bool ((rd_T27 l0 x10_1).f1))).setCell ⟨gb270,2,none⟩ (.int .i64 ((rd_T27 l0 x10_1).f2))).setCell ⟨gb270,3,none⟩ (.int .i64 ((rd_T27 l0 x10_1).f3))).setCell ⟨gb270,4,none⟩ (.int .i64 ((rd_T27 l0 x10_1).f4))).setCell ⟨gb270,5,none⟩ (.slice A269_5 ((rd_T27 l0 x10_1).f5).length c269_5)).heap[gb270]? = some (.cells #[.bool ((rd_T27 l0 x10_1).f0),.bool ((rd_T27 l0 x10_1).f1),.int .i64 ((rd_T27 l0 x10_1).f2),.int .i64 ((rd_T27 l0 x10_1).f3),.int .i64 ((rd_T27 l0 x10_1).f4),.slice A269_5 ((rd_T27 l0 x10_1).f5).length c269_5] 27 (0,0))):=⟨by (with_reducible repeat (first|apply zzf|apply zzg|apply zze));refine zzi (cs:=#[.bool ((rd_T27 l0 x10_1).f0),.bool ((rd_T27 l0 x10_1).f1),.int .i64 ((rd_T27 l0 x10_1).f2),.int .i64 ((rd_T27 l0 x10_1).f3),.int .i64 ((rd_T27 l0 x10_1).f4),.slice none 0 0]) ?_ 5 _ rfl;(with_reducible repeat (first|apply zzf|apply zzg|apply zze));refine zzi (cs:=#[.bool ((rd_T27 l0 x10_1).f0),.bool ((rd_T27 l0 x10_1).f1),.int .i64 ((rd_T27 l0 x10_1).f2),.int .i64 ((rd_T27 l0 x10_1).f3),.int .i64 0,.slice none 0 0]) ?_ 4 _ rfl;(with_reducible repeat (first|apply zzf|apply zzg|apply zze));refine zzi (cs:=#[.bool ((rd_T27 l0 x10_1).f0),.bool ((rd_T27 l0 x10_1).f1),.int .i64 ((rd_T27 l0 x10_1).f2),.int .i64 0,.int .i64 0,.slice none 0 0]) ?_ 3 _ rfl;(with_reducible repeat (first|apply zzf|apply zzg|apply zze));refine zzi (cs:=#[.bool ((rd_T27 l0 x10_1).f0),.bool ((rd_T27 l0 x10_1).f1),.int .i64 0,.int .i64 0,.int .i64 0,.slice none 0 0]) ?_ 2 _ rfl;(with_reducible repeat (first|apply zzf|apply zzg|apply zze));refine zzi (cs:=#[.bool ((rd_T27 l0 x10_1).f0),.bool false,.int .i64 0,.int .i64 0,.int .i64 0,.slice none 0 0]) ?_ 1 _ rfl;(with_reducible repeat (first|apply zzf|apply zzg|apply zze));refine zzi (cs:=#[.bool false,.bool false,.int .i64 0,.int .i64 0,.int .i64 0,.slice none 0 0]) ?_ 0 _ rfl;(with_reducible repeat (first|apply zzf|apply zzg|apply zze));exact BK270.out⟩;have n1_:Aside0 (Below w.heap.size w ((((((w22.setCell ⟨gb270,0,none⟩ (.bool ((rd_T27 l0 x10_1).f0))).setCell ⟨gb270,1,none⟩ (.bool ((rd_T27 l0 x10_1).f1))).setCell ⟨gb270,2,none⟩ (.int .i64 ((rd_T27 l0 x10_1).f2))).setCell ⟨gb270,3,none⟩ (.int .i64 ((rd_T27 l0 x10_1).f3))).setCell ⟨gb270,4,none⟩ (.int .i64 ((rd_T27 l0 x10_1).f4))).setCell ⟨gb270,5,none⟩ (.slice A269_5 ((rd_T27 l0 x10_1).f5).length c269_5))):=⟨by repeat (first|(with_reducible first|exact HB.out|apply zza|apply zzb|apply zzc|refine zzd ?_ GE270.out)|exact HB.out)⟩;(try clear BK270);(try clear HB);generalize ((((((w22.setCell ⟨gb270,0,none⟩ (.bool ((rd_T27 l0 x10_1).f0))).setCell ⟨gb270,1,none⟩ (.bool ((rd_T27 l0 x10_1).f1))).setCell ⟨gb270,2,none⟩ (.int .i64 ((rd_T27 l0 x10_1).f2))).setCell ⟨gb270,3,none⟩ (.int .i64 ((rd_T27 l0 x10_1).f3))).setCell ⟨gb270,4,none⟩ (.int .i64 ((rd_T27 l0 x10_1).f4))).setCell ⟨gb270,5,none⟩ (.slice A269_5 ((rd_T27 l0 x10_1).f5).length c269_5))=w24 at n0_ n1_ ⊢;have BK270:=n0_;have HB:=n1_;clear n0_ n1_;have n0_:=zzm (zzg BK270.out);have n1_:=zzm (zzc HB.out);clear BK270 HB;have BK270:=n0_;have HB:=n1_;clear n0_ n1_;have p272 : 0≤((ji9):Int):=zzt;have q272:(ji9) < (l0.length:Int):=zzt;obtain ⟨ad272,A272_5,c272_5,e272,hx272_0,hx272_1,hx272_2,hx272_3,hx272_4,hx272_5,hl272_5,hi272_5⟩:=at_T27 HR0.out (ji9) p272 q272;have hw272_5:=hx272_5;have hw272_4:=hx272_4;have hw272_3:=hx272_3;have hw272_2:=hx272_2;have hw272_1:=hx272_1;have hw272_0:=hx272_0;obtain rfl:ad269=ad272:=(by injection e272);replace hx272_0:=zzx HB.out hx272_0;replace hx272_1:=zzx HB.out hx272_1;replace hx272_2:=zzx HB.out hx272_2;replace hx272_3:=zzx HB.out hx272_3;replace hx272_4:=zzx HB.out hx272_4;replace hx272_5:=zzx HB.out hx272_5;have HR272_5:=zzm hi272_5;have HC272_5:=zzm hl272_5;clear hi272_5 hl272_5;replace p272:=eq_true p272;replace q272:=eq_true q272;refine start_ (n:=18) (S:=fun w'=>w'.cell? ⟨gb270,0,none⟩=some (.bool ((rd_T27 l0 x10_1).f0))∧w'.cell? ⟨gb270,1,none⟩=some (.bool ((rd_T27 l0 x10_1).f1))∧w'.cell? ⟨gb270,2,none⟩=some (.int .i64 ((rd_T27 l0 x10_1).f2))∧w'.cell? ⟨gb270,3,none⟩=some (.int .i64 ((rd_T27 l0 x10_1).f3))∧w'.cell? ⟨gb270,4,none⟩=some (.int .i64 ((rd_T27 l0 x10_1).f4))∧w'.cell? ⟨gb270,5,none⟩=some (.slice A269_5 ((rd_T27 l0 x10_1).f5).length c269_5)∧w'.cell? (ad269.add (((ji9)).toNat * 6))=some (.bool ((rd_T27 l0 (ji9)).f0))∧w'.cell? ⟨(ad269.add (((ji9)).toNat * 6)).block,(ad269.add (((ji9)).toNat * 6)).off+1,none⟩=some (.bool ((rd_T27 l0 (ji9)).f1))∧w'.cell? ⟨(ad269.add (((ji9)).toNat * 6)).block,(ad269.add (((ji9)).toNat * 6)).off+2,none⟩=some (.int .i64 ((rd_T27 l0 (ji9)).f2))∧w'.cell? ⟨(ad269.add (((ji9)).toNat * 6)).block,(ad269.add (((ji9)).toNat * 6)).off+3,none⟩=some (.int .i64 ((rd_T27 l0 (ji9)).f3))∧w'.cell? ⟨(ad269.add (((ji9)).toNat * 6)).block,(ad269.add (((ji9)).toNat * 6)).off+4,none⟩=some (.int .i64 ((rd_T27 l0 (ji9)).f4))∧w'.cell? ⟨(ad269.add (((ji9)).toNat * 6)).block,(ad269.add (((ji9)).toNat * 6)).off+5,none⟩=some (.slice A272_5 ((rd_T27 l0 (ji9)).f5).length c272_5)) (ds:=[]) (zzB 18 0) (by kernel_rfl) rfl rfl ⟨(zzk BK270.out 0).trans rfl,(zzk BK270.out 1).trans rfl,(zzk BK270.out 2).trans rfl,(zzk BK270.out 3).trans rfl,(zzk BK270.out 4).trans rfl,(zzk BK270.out 5).trans rfl,(zzx HB.out hw272_0),(zzx HB.out hw272_1),(zzx HB.out hw272_2),(zzx HB.out hw272_3),(zzx HB.out hw272_4),(zzx HB.out hw272_5)⟩ (fun hHeld=>?_);refine with_tabW impl_LogValid.tab6 impl_LogValid.bits6 (fun HT_ HW_=>?_);generalize w24.drew=w25 at BK270 HB HR272_5 hx272_0 hx272_1 hx272_2 hx272_3 hx272_4 hx272_5 hHeld ⊢;refine take_ (i:=0) (N:=some 15) (v:=?_) (a':=?_) (zzB 18 1) rfl rfl (take_ofW HT_.out HW_.out (by kernel_rfl)) (fun _ _ _ h=>h) (Or.inl ⟨by rfl,?_⟩) hHeld ?_ ?_;rotate_left
            ·
             rintro w' ⟨s0,s1,s2,s3,s4,s5,s6,s7,s8,s9,s10,s11⟩;go_simp;with_reducible rfl
            rotate_left
            ·
             simp only [Act.put,zzq,zzr,zzs,i64_w,i32_w];rfl
            refine one_ (i:=1) (N:=some 16) (zzB 18 3) rfl rfl (one_of HT_.out (by kernel_rfl)) (by decide) (fun K hK=>?_);refine goes_ Try.func22 (by kernel_rfl) rfl #[.agg #[.bool ((rd_T27 l0 x10_1).f0),.bool ((rd_T27 l0 x10_1).f1),.int .i64 ((rd_T27 l0 x10_1).f2),.int .i64 ((rd_T27 l0 x10_1).f3),.int .i64 ((rd_T27 l0 x10_1).f4),.slice A269_5 ((rd_T27 l0 x10_1).f5).length c269_5]] (by rfl) rfl rfl zzM2 ?_;with_reducible refine (impl_BatchValid.calls k1 ((rd_T27 l0 x10_1).f0) ((rd_T27 l0 x10_1).f1) ((rd_T27 l0 x10_1).f2) ((rd_T27 l0 x10_1).f3) ((rd_T27 l0 x10_1).f4) _ _ ((rd_T27 l0 x10_1).f5) true _ ?side1 ?side2 A6.out).mono ?_;(case side1=>repeat (first|exact (Kd.C_below HR269_5.out HB.out)|(with_reducible refine Kd.C_alloc ?_ _)|(with_reducible refine Kd.C_drewN ?_ _)|(with_reducible refine Kd.C_drew ?_)));(case side2=>exact HC269_5.out);rintro e w26 ⟨rfl,hb⟩;refine ⟨_,rfl,?_⟩;have n0_:=zzm (zzh (g:=gb270) (o:=.cells #[.bool ((rd_T27 l0 x10_1).f0),.bool ((rd_T27 l0 x10_1).f1),.int .i64 ((rd_T27 l0 x10_1).f2),.int .i64 ((rd_T27 l0 x10_1).f3),.int .i64 ((rd_T27 l0 x10_1).f4),.slice A269_5 ((rd_T27 l0 x10_1).f5).length c269_5] 27 (0,0)) (zzE BK270.out) hb);have n1_:=zzm (zzp zzh2 hb);clear BK270 HB;have BK270:=n0_;have HB:=n1_;clear n0_ n1_;(try clear hb);(try clear hb2);(try clear hk);(try clear hi);refine hK.out _ _ ⟨(zzk BK270.out 0).trans rfl,(zzk BK270.out 1).trans rfl,(zzk BK270.out 2).trans rfl,(zzk BK270.out 3).trans rfl,(zzk BK270.out 4).trans rfl,(zzk BK270.out 5).trans rfl,(zzx HB.out hw272_0),(zzx HB.out hw272_1),(zzx HB.out hw272_2),(zzx HB.out hw272_3),(zzx HB.out hw272_4),(zzx HB.out hw272_5)⟩ (fun hHeld=>?_);clear hK K;refine norm_ (a':=?_) ?_ ?_;rotate_left
            ·
             show Act.put _ (some 16) _ = _;simp only [Act.put,zzq,zzr,zzs,i64_w,i32_w];rfl
            refine pure_ (i:=2) (N:=some 17) (v:=?_) (a':=?_) (zzB 18 7) rfl rfl (zzA2 HT_.out) (fun _ _ _ h=>h) (Or.inl ⟨by rfl,?_⟩) ?_ ?_;rotate_left
            ·
             intro w';go_simp;with_reducible rfl
            rotate_left
            ·
             simp only [Act.put,zzq,zzr,zzs,i64_w,i32_w];rfl
            refine pure_ (i:=3) (N:=some 18) (v:=?_) (a':=?_) (zzB 18 15) rfl rfl (zzA2 HT_.out) (fun _ _ _ h=>h) (Or.inl ⟨by rfl,?_⟩) ?_ ?_;rotate_left
            ·
             intro w';go_simp;with_reducible rfl
            rotate_left
            ·
             simp only [Act.put,zzq,zzr,zzs,i64_w,i32_w];rfl
            refine pure_ (i:=4) (N:=some 19) (v:=?_) (a':=?_) (zzB 18 31) rfl rfl (zzA2 HT_.out) (fun _ _ _ h=>h) (Or.inl ⟨by rfl,?_⟩) ?_ ?_;rotate_left
            ·
             intro w';go_simp;with_reducible rfl
            rotate_left
            ·
             simp only [Act.put,zzq,zzr,zzs,i64_w,i32_w];rfl
            refine pure_ (i:=5) (N:=some 20) (v:=?_) (a':=?_) (zzB 18 63) rfl rfl (zzA2 HT_.out) (fun _ _ _ h=>h) (Or.inl ⟨by rfl,?_⟩) ?_ ?_;rotate_left
            ·
             intro w';go_simp;with_reducible rfl
            rotate_left
            ·
             simp only [Act.put,zzq,zzr,zzs,i64_w,i32_w];rfl
            refine pure_ (i:=6) (N:=some 21) (v:=?_) (a':=?_) (zzB 18 127) rfl rfl (zzA2 HT_.out) (fun _ _ _ h=>h) (Or.inl ⟨by rfl,?_⟩) ?_ ?_;rotate_left
            ·
             intro w';go_simp;with_reducible rfl
            rotate_left
            ·
             simp only [Act.put,zzq,zzr,zzs,i64_w,i32_w];rfl
            refine pure_ (i:=7) (N:=some 22) (v:=?_) (a':=?_) (zzB 18 255) rfl rfl (zzA2 HT_.out) (fun _ _ _ h=>h) (Or.inl ⟨by rfl,?_⟩) ?_ ?_;rotate_left
            ·
             intro w';go_simp;with_reducible rfl
            rotate_left
            ·
             simp only [Act.put,zzq,zzr,zzs,i64_w,i32_w];rfl
            refine pure_ (i:=8) (N:=some 23) (v:=?_) (a':=?_) (zzB 18 511) rfl rfl (zzA2 HT_.out) (fun _ _ _ h=>h) (Or.inl ⟨by rfl,?_⟩) ?_ ?_;rotate_left
            ·
             intro w';go_simp;with_reducible rfl
            rotate_left
            ·
             simp only [Act.put,zzq,zzr,zzs,i64_w,i32_w];rfl
            refine pure_ (i:=9) (N:=some 24) (v:=?_) (a':=?_) (zzB 18 1023) rfl rfl (zzA2 HT_.out) (fun _ _ _ h=>h) (Or.inl ⟨by rfl,?_⟩) ?_ ?_;rotate_left
            ·
             intro w';go_simp;with_reducible rfl
            rotate_left
            ·
             simp only [Act.put,zzq,zzr,zzs,i64_w,i32_w];rfl
            refine pure_ (i:=10) (N:=some 25) (v:=?_) (a':=?_) (zzB 18 2047) rfl rfl (zzA2 HT_.out) (fun _ _ _ h=>h) (Or.inl ⟨by rfl,?_⟩) ?_ ?_;rotate_left
            ·
             intro w';go_simp;with_reducible rfl
            rotate_left
            ·
             simp only [Act.put,zzq,zzr,zzs,i64_w,i32_w];rfl
            refine take_ (i:=11) (N:=some 26) (v:=?_) (a':=?_) (zzB 18 4095) rfl rfl (take_ofW HT_.out HW_.out (by kernel_rfl)) (fun _ _ _ h=>h) (Or.inl ⟨by rfl,?_⟩) hHeld ?_ ?_;rotate_left
            ·
             rintro w' ⟨s0,s1,s2,s3,s4,s5,s6,s7,s8,s9,s10,s11⟩;go_simp;with_reducible rfl
            rotate_left
            ·
             simp only [Act.put,zzq,zzr,zzs,i64_w,i32_w];rfl
            refine take_ (i:=13) (N:=some 28) (v:=?_) (a':=?_) (zzB 18 12287) rfl rfl (take_ofW HT_.out HW_.out (by kernel_rfl)) (fun _ _ _ h=>h) (Or.inl ⟨by rfl,?_⟩) hHeld ?_ ?_;rotate_left
            ·
             rintro w' ⟨s0,s1,s2,s3,s4,s5,s6,s7,s8,s9,s10,s11⟩;go_simp;with_reducible rfl
            rotate_left
            ·
             simp only [Act.put,zzq,zzr,zzs,i64_w,i32_w];rfl
            refine one_ (i:=12) (N:=some 27) (zzB 18 16383) rfl rfl (one_of HT_.out (by kernel_rfl)) (by decide) (fun K hK=>?_);refine goes_ Try.func65 (by kernel_rfl) rfl #[.agg #[.bool ((rd_T27 l0 (ji9)).f0),.bool ((rd_T27 l0 (ji9)).f1),.int .i64 ((rd_T27 l0 (ji9)).f2),.int .i64 ((rd_T27 l0 (ji9)).f3),.int .i64 ((rd_T27 l0 (ji9)).f4),.slice A272_5 ((rd_T27 l0 (ji9)).f5).length c272_5]] (by rfl) rfl rfl (by (try simp only [map_toArray,map_cons,map_nil]);first|done|(simp only [hji9];rfl)|rfl|(simp only [length_drop,length_take];rfl)) ?_;with_reducible refine (impl_Batch_last.calls ((rd_T27 l0 (ji9)).f0) ((rd_T27 l0 (ji9)).f1) ((rd_T27 l0 (ji9)).f2) ((rd_T27 l0 (ji9)).f3) ((rd_T27 l0 (ji9)).f4) _ _ ((rd_T27 l0 (ji9)).f5) t273 _ ?side1 ?side2 A12.out).mono ?_;(case side1=>repeat (first|exact (Kd.C_below HR272_5.out HB.out)|(with_reducible refine Kd.C_alloc ?_ _)|(with_reducible refine Kd.C_drewN ?_ _)|(with_reducible refine Kd.C_drew ?_)));(case side2=>exact HC272_5.out);rintro e w27 ⟨rfl,hb⟩;refine ⟨_,rfl,?_⟩;have n0_:=zzm (zzh (g:=gb270) (o:=.cells #[.bool ((rd_T27 l0 x10_1).f0),.bool ((rd_T27 l0 x10_1).f1),.int .i64 ((rd_T27 l0 x10_1).f2),.int .i64 ((rd_T27 l0 x10_1).f3),.int .i64 ((rd_T27 l0 x10_1).f4),.slice A269_5 ((rd_T27 l0 x10_1).f5).length c269_5] 27 (0,0)) (zzE BK270.out) hb);have n1_:=zzm (zzp zzh2 hb);clear BK270 HB;have BK270:=n0_;have HB:=n1_;clear n0_ n1_;(try clear hb);(try clear hb2);(try clear hk);(try clear hi);refine hK.out _ _ ⟨(zzk BK270.out 0).trans rfl,(zzk BK270.out 1).trans rfl,(zzk BK270.out 2).trans rfl,(zzk BK270.out 3).trans rfl,(zzk BK270.out 4).trans rfl,(zzk BK270.out 5).trans rfl,(zzx HB.out hw272_0),(zzx HB.out hw272_1),(zzx HB.out hw272_2),(zzx HB.out hw272_3),(zzx HB.out hw272_4),(zzx HB.out hw272_5)⟩ (fun hHeld=>?_);clear hK K;refine norm_ (a':=?_) ?_ ?_;rotate_left
            ·
             show Act.put _ (some 27) _ = _;simp only [Act.put,zzq,zzr,zzs,i64_w,i32_w];rfl
            refine one_ (i:=14) (N:=some 29) (zzB 18 32767) rfl rfl (one_of HT_.out (by kernel_rfl)) (by decide) (fun K hK=>?_);refine goes_ Try.func63 (by kernel_rfl) rfl #[.agg #[.bool ((rd_T27 l0 x10_1).f0),.bool ((rd_T27 l0 x10_1).f1),.int .i64 ((rd_T27 l0 x10_1).f2),.int .i64 ((rd_T27 l0 x10_1).f3),.int .i64 ((rd_T27 l0 x10_1).f4),.slice A269_5 ((rd_T27 l0 x10_1).f5).length c269_5]] (by rfl) rfl rfl zzM2 ?_;with_reducible refine (impl_Batch_first.calls ((rd_T27 l0 x10_1).f0) ((rd_T27 l0 x10_1).f1) ((rd_T27 l0 x10_1).f2) ((rd_T27 l0 x10_1).f3) ((rd_T27 l0 x10_1).f4) _ _ ((rd_T27 l0 x10_1).f5) t274 _ ?side1 ?side2 A13.out).mono ?_;(case side1=>repeat (first|exact (Kd.C_below HR269_5.out HB.out)|(with_reducible refine Kd.C_alloc ?_ _)|(with_reducible refine Kd.C_drewN ?_ _)|(with_reducible refine Kd.C_drew ?_)));(case side2=>exact HC269_5.out);rintro e w28 ⟨rfl,hb⟩;refine ⟨_,rfl,?_⟩;have n0_:=zzm (zzh (g:=gb270) (o:=.cells #[.bool ((rd_T27 l0 x10_1).f0),.bool ((rd_T27 l0 x10_1).f1),.int .i64 ((rd_T27 l0 x10_1).f2),.int .i64 ((rd_T27 l0 x10_1).f3),.int .i64 ((rd_T27 l0 x10_1).f4),.slice A269_5 ((rd_T27 l0 x10_1).f5).length c269_5] 27 (0,0)) (zzE BK270.out) hb);have n1_:=zzm (zzp zzh2 hb);clear BK270 HB;have BK270:=n0_;have HB:=n1_;clear n0_ n1_;(try clear hb);(try clear hb2);(try clear hk);(try clear hi);refine hK.out _ _ ⟨(zzk BK270.out 0).trans rfl,(zzk BK270.out 1).trans rfl,(zzk BK270.out 2).trans rfl,(zzk BK270.out 3).trans rfl,(zzk BK270.out 4).trans rfl,(zzk BK270.out 5).trans rfl,(zzx HB.out hw272_0),(zzx HB.out hw272_1),(zzx HB.out hw272_2),(zzx HB.out hw272_3),(zzx HB.out hw272_4),(zzx HB.out hw272_5)⟩ (fun hHeld=>?_);clear hK K;refine norm_ (a':=?_) ?_ ?_;rotate_left
            ·
             show Act.put _ (some 29) _ = _;simp only [Act.put,zzq,zzr,zzs,i64_w,i32_w];rfl
            refine pure_ (i:=15) (N:=some 30) (v:=?_) (a':=?_) (zzB 18 65535) rfl rfl (zzA2 HT_.out) (fun _ _ _ h=>h) (Or.inl ⟨by rfl,?_⟩) ?_ ?_;rotate_left
            ·
             intro w';go_simp;with_reducible rfl
            rotate_left
            ·
             simp only [Act.put,zzq,zzr,zzs,i64_w,i32_w];rfl
            refine pure_ (i:=16) (N:=some 31) (v:=?_) (a':=?_) (zzB 18 131071) rfl rfl (zzA2 HT_.out) (fun _ _ _ h=>h) (Or.inl ⟨by rfl,?_⟩) ?_ ?_;rotate_left
            ·
             intro w';go_simp;with_reducible rfl
            rotate_left
            ·
             simp only [Act.put,zzq,zzr,zzs,i64_w,i32_w];rfl
            refine pure_ (i:=17) (N:=some 32) (v:=?_) (a':=?_) (zzB 18 262143) rfl rfl (zzA2 HT_.out) (fun _ _ _ h=>h) (Or.inl ⟨by rfl,?_⟩) ?_ ?_;rotate_left
            ·
             intro w';go_simp;with_reducible rfl
            rotate_left
            ·
             simp only [Act.put,zzq,zzr,zzs,i64_w,i32_w];rfl
            refine done_ (done_of HT_.out (by kernel_rfl)) ?_;try go_wp2
            go_roundg k1
            case measure=>have:=HK1.out;omega
            case rel=>exact ⟨(wrap64 (x10_1+1)),(by first|rfl|(simp;done)|(simp [*];done)),H',⟨by have:=HK1.out;omega⟩,⟨by repeat (first|(with_reducible first|exact HB.out|apply zza|apply zzb|apply zzc|refine zzd ?_ GE270.out)|exact HB.out)⟩⟩
          ·
           rw [if_neg c11] at H;exact absurd H (by simp)
         ·
          rw [if_neg c10] at H;exact absurd H (by simp)
        ·
         rw [if_neg c8] at H;have c8b0:decide (0 < x10_1)=false:=decide_eq_false c8;clear c8;have H':=zzm H;clear H;have p269 : 0≤(x10_1:Int):=zzt;have q269:x10_1 < (l0.length:Int):=zzt;obtain ⟨ad269,A269_5,c269_5,e269,hx269_0,hx269_1,hx269_2,hx269_3,hx269_4,hx269_5,hl269_5,hi269_5⟩:=at_T27 HR0.out x10_1 p269 q269;cases e269;replace hx269_0:=zzx HB.out hx269_0;replace hx269_1:=zzx HB.out hx269_1;replace hx269_2:=zzx HB.out hx269_2;replace hx269_3:=zzx HB.out hx269_3;replace hx269_4:=zzx HB.out hx269_4;replace hx269_5:=zzx HB.out hx269_5;have HR269_5:=zzm hi269_5;have HC269_5:=zzm hl269_5;clear hi269_5 hl269_5;replace p269:=eq_true p269;replace q269:=eq_true q269;try go_wp2_with (first|((with_reducible refine gate_dst (N:=4) rfl ?_);refine box_event ?hg (N:=4) ?hd (cs:=#[.bool false,.bool false,.int .i64 0,.int .i64 0,.int .i64 0,.slice none 0 0]) (t:=27) ?hr ?_;(case hd=>rfl);(case hg=>rfl);(case hr=>first|(go_simp;done)|(go_simp;rfl));intro gb270 hg w29 hbox hb;have n0_:=zzm (zzp zzh1 hb);have n1_:=zzm (hbox);have n2_:=zzm ((by rw [hg];exact (zzo zzh1):w.heap.size≤gb270));have n3_:=zzm ((by rw [hg];exact (zzo zzh1):w.heap.size≤gb270));clear HB;have HB:=n0_;have BK270:=n1_;have GW270:=n2_;have GE270:=n3_;clear n0_ n1_ n2_ n3_ hb hbox hg;obtain ⟨hcz30_0,hcz30_1,hcz30_2,hcz30_3,hcz30_4,hcz30_5,hfz30_0,hfz30_1,hfz30_2,hfz30_3,hfz30_4,hfz30_5⟩:=zzc6 BK270.out))
         have n0_:Aside0 (((((((w29.setCell ⟨gb270,0,none⟩ (.bool ((rd_T27 l0 x10_1).f0))).setCell ⟨gb270,1,none⟩ (.bool ((rd_T27 l0 x10_1).f1))).setCell ⟨gb270,2,none⟩ (.int .i64 ((rd_T27 l0 x10_1).f2))).setCell ⟨gb270,3,none⟩ (.int .i64 ((rd_T27 l0 x10_1).f3))).setCell ⟨gb270,4,none⟩ (.int .i64 ((rd_T27 l0 x10_1).f4))).setCell ⟨gb270,5,none⟩ (.slice A269_5 ((rd_T27 l0 x10_1).f5).length c269_5)).heap[gb270]? = some (.cells #[.bool ((rd_T27 l0 x10_1).f0),.bool ((rd_T27 l0 x10_1).f1),.int .i64 ((rd_T27 l0 x10_1).f2),.int .i64 ((rd_T27 l0 x10_1).f3),.int .i64 ((rd_T27 l0 x10_1).f4),.slice A269_5 ((rd_T27 l0 x10_1).f5).length c269_5] 27 (0,0))):=⟨by (with_reducible repeat (first|apply zzf|apply zzg|apply zze));refine zzi (cs:=#[.bool ((rd_T27 l0 x10_1).f0),.bool ((rd_T27 l0 x10_1).f1),.int .i64 ((rd_T27 l0 x10_1).f2),.int .i64 ((rd_T27 l0 x10_1).f3),.int .i64 ((rd_T27 l0 x10_1).f4),.slice none 0 0]) ?_ 5 _ rfl;(with_reducible repeat (first|apply zzf|apply zzg|apply zze));refine zzi (cs:=#[.bool ((rd_T27 l0 x10_1).f0),.bool ((rd_T27 l0 x10_1).f1),.int .i64 ((rd_T27 l0 x10_1).f2),.int .i64 ((rd_T27 l0 x10_1).f3),.int .i64 0,.slice none 0 0]) ?_ 4 _ rfl;(with_reducible repeat (first|apply zzf|apply zzg|apply zze));refine zzi (cs:=#[.bool ((rd_T27 l0 x10_1).f0),.bool ((rd_T27 l0 x10_1).f1),.int .i64 ((rd_T27 l0 x10_1).f2),.int .i64 0,.int .i64 0,.slice none 0 0]) ?_ 3 _ rfl;(with_reducible repeat (first|apply zzf|apply zzg|apply zze));refine zzi (cs:=#[.bool ((rd_T27 l0 x10_1).f0),.bool ((rd_T27 l0 x10_1).f1),.int .i64 0,.int .i64 0,.int .i64 0,.slice none 0 0]) ?_ 2 _ rfl;(with_reducible repeat (first|apply zzf|apply zzg|apply zze));refine zzi (cs:=#[.bool ((rd_T27 l0 x10_1).f0),.bool false,.int .i64 0,.int .i64 0,.int .i64 0,.slice none 0 0]) ?_ 1 _ rfl;(with_reducible repeat (first|apply zzf|apply zzg|apply zze));refine zzi (cs:=#[.bool false,.bool false,.int .i64 0,.int .i64 0,.int .i64 0,.slice none 0 0]) ?_ 0 _ rfl;(with_reducible repeat (first|apply zzf|apply zzg|apply zze));exact BK270.out⟩;have n1_:Aside0 (Below w.heap.size w ((((((w29.setCell ⟨gb270,0,none⟩ (.bool ((rd_T27 l0 x10_1).f0))).setCell ⟨gb270,1,none⟩ (.bool ((rd_T27 l0 x10_1).f1))).setCell ⟨gb270,2,none⟩ (.int .i64 ((rd_T27 l0 x10_1).f2))).setCell ⟨gb270,3,none⟩ (.int .i64 ((rd_T27 l0 x10_1).f3))).setCell ⟨gb270,4,none⟩ (.int .i64 ((rd_T27 l0 x10_1).f4))).setCell ⟨gb270,5,none⟩ (.slice A269_5 ((rd_T27 l0 x10_1).f5).length c269_5))):=⟨by repeat (first|(with_reducible first|exact HB.out|apply zza|apply zzb|apply zzc|refine zzd ?_ GE270.out)|exact HB.out)⟩;(try clear BK270);(try clear HB);generalize ((((((w29.setCell ⟨gb270,0,none⟩ (.bool ((rd_T27 l0 x10_1).f0))).setCell ⟨gb270,1,none⟩ (.bool ((rd_T27 l0 x10_1).f1))).setCell ⟨gb270,2,none⟩ (.int .i64 ((rd_T27 l0 x10_1).f2))).setCell ⟨gb270,3,none⟩ (.int .i64 ((rd_T27 l0 x10_1).f3))).setCell ⟨gb270,4,none⟩ (.int .i64 ((rd_T27 l0 x10_1).f4))).setCell ⟨gb270,5,none⟩ (.slice A269_5 ((rd_T27 l0 x10_1).f5).length c269_5))=w31 at n0_ n1_ ⊢;have BK270:=n0_;have HB:=n1_;clear n0_ n1_;have n0_:=zzm (zzg BK270.out);have n1_:=zzm (zzc HB.out);clear BK270 HB;have BK270:=n0_;have HB:=n1_;clear n0_ n1_;refine start_ (n:=18) (S:=fun w'=>w'.cell? ⟨gb270,0,none⟩=some (.bool ((rd_T27 l0 x10_1).f0))∧w'.cell? ⟨gb270,1,none⟩=some (.bool ((rd_T27 l0 x10_1).f1))∧w'.cell? ⟨gb270,2,none⟩=some (.int .i64 ((rd_T27 l0 x10_1).f2))∧w'.cell? ⟨gb270,3,none⟩=some (.int .i64 ((rd_T27 l0 x10_1).f3))∧w'.cell? ⟨gb270,4,none⟩=some (.int .i64 ((rd_T27 l0 x10_1).f4))∧w'.cell? ⟨gb270,5,none⟩=some (.slice A269_5 ((rd_T27 l0 x10_1).f5).length c269_5)) (ds:=[]) (zzB 18 0) (by kernel_rfl) rfl rfl ⟨(zzk BK270.out 0).trans rfl,(zzk BK270.out 1).trans rfl,(zzk BK270.out 2).trans rfl,(zzk BK270.out 3).trans rfl,(zzk BK270.out 4).trans rfl,(zzk BK270.out 5).trans rfl⟩ (fun hHeld=>?_);refine with_tabW impl_LogValid.tab6 impl_LogValid.bits6 (fun HT_ HW_=>?_);generalize w31.drew=w32 at BK270 HB hHeld ⊢;refine take_ (i:=0) (N:=some 15) (v:=?_) (a':=?_) (zzB 18 1) rfl rfl (take_ofW HT_.out HW_.out (by kernel_rfl)) (fun _ _ _ h=>h) (Or.inl ⟨by rfl,?_⟩) hHeld ?_ ?_;rotate_left
         ·
          rintro w' ⟨s0,s1,s2,s3,s4,s5⟩;go_simp;with_reducible rfl
         rotate_left
         ·
          simp only [Act.put,zzq,zzr,zzs,i64_w,i32_w];rfl
         refine one_ (i:=1) (N:=some 16) (zzB 18 3) rfl rfl (one_of HT_.out (by kernel_rfl)) (by decide) (fun K hK=>?_);refine goes_ Try.func22 (by kernel_rfl) rfl #[.agg #[.bool ((rd_T27 l0 x10_1).f0),.bool ((rd_T27 l0 x10_1).f1),.int .i64 ((rd_T27 l0 x10_1).f2),.int .i64 ((rd_T27 l0 x10_1).f3),.int .i64 ((rd_T27 l0 x10_1).f4),.slice A269_5 ((rd_T27 l0 x10_1).f5).length c269_5]] (by rfl) rfl rfl zzM2 ?_;with_reducible refine (impl_BatchValid.calls k1 ((rd_T27 l0 x10_1).f0) ((rd_T27 l0 x10_1).f1) ((rd_T27 l0 x10_1).f2) ((rd_T27 l0 x10_1).f3) ((rd_T27 l0 x10_1).f4) _ _ ((rd_T27 l0 x10_1).f5) true _ ?side1 ?side2 A6.out).mono ?_;(case side1=>repeat (first|exact (Kd.C_below HR269_5.out HB.out)|(with_reducible refine Kd.C_alloc ?_ _)|(with_reducible refine Kd.C_drewN ?_ _)|(with_reducible refine Kd.C_drew ?_)));(case side2=>exact HC269_5.out);rintro e w33 ⟨rfl,hb⟩;refine ⟨_,rfl,?_⟩;have n0_:=zzm (zzh (g:=gb270) (o:=.cells #[.bool ((rd_T27 l0 x10_1).f0),.bool ((rd_T27 l0 x10_1).f1),.int .i64 ((rd_T27 l0 x10_1).f2),.int .i64 ((rd_T27 l0 x10_1).f3),.int .i64 ((rd_T27 l0 x10_1).f4),.slice A269_5 ((rd_T27 l0 x10_1).f5).length c269_5] 27 (0,0)) (zzE BK270.out) hb);have n1_:=zzm (zzp zzh2 hb);clear BK270 HB;have BK270:=n0_;have HB:=n1_;clear n0_ n1_;(try clear hb);(try clear hb2);(try clear hk);(try clear hi);refine hK.out _ _ ⟨(zzk BK270.out 0).trans rfl,(zzk BK270.out 1).trans rfl,(zzk BK270.out 2).trans rfl,(zzk BK270.out 3).trans rfl,(zzk BK270.out 4).trans rfl,(zzk BK270.out 5).trans rfl⟩ (fun hHeld=>?_);clear hK K;refine norm_ (a':=?_) ?_ ?_;rotate_left
         ·
          show Act.put _ (some 16) _ = _;simp only [Act.put,zzq,zzr,zzs,i64_w,i32_w];rfl
         refine pure_ (i:=2) (N:=some 17) (v:=?_) (a':=?_) (zzB 18 7) rfl rfl (zzA2 HT_.out) (fun _ _ _ h=>h) (Or.inl ⟨by rfl,?_⟩) ?_ ?_;rotate_left
         ·
          intro w';go_simp;with_reducible rfl
         rotate_left
         ·
          simp only [Act.put,zzq,zzr,zzs,i64_w,i32_w];rfl
         refine pure_ (i:=3) (N:=some 18) (v:=?_) (a':=?_) (zzB 18 15) rfl rfl (zzA2 HT_.out) (fun _ _ _ h=>h) (Or.inl ⟨by rfl,?_⟩) ?_ ?_;rotate_left
         ·
          intro w';go_simp;with_reducible rfl
         rotate_left
         ·
          simp only [Act.put,zzq,zzr,zzs,i64_w,i32_w];rfl
         refine pure_ (i:=4) (N:=some 19) (v:=?_) (a':=?_) (zzB 18 31) rfl rfl (zzA2 HT_.out) (fun _ _ _ h=>h) (Or.inl ⟨by rfl,?_⟩) ?_ ?_;rotate_left
         ·
          intro w';go_simp;with_reducible rfl
         rotate_left
         ·
          simp only [Act.put,zzq,zzr,zzs,i64_w,i32_w];rfl
         refine pure_ (i:=5) (N:=some 20) (v:=?_) (a':=?_) (zzB 18 63) rfl rfl (zzA2 HT_.out) (fun _ _ _ h=>h) (Or.inl ⟨by rfl,?_⟩) ?_ ?_;rotate_left
         ·
          intro w';go_simp;with_reducible rfl
         rotate_left
         ·
          simp only [Act.put,zzq,zzr,zzs,i64_w,i32_w];rfl
         refine pure_ (i:=6) (N:=some 21) (v:=?_) (a':=?_) (zzB 18 127) rfl rfl (zzA2 HT_.out) (fun _ _ _ h=>h) (Or.inl ⟨by rfl,?_⟩) ?_ ?_;rotate_left
         ·
          intro w';go_simp;with_reducible rfl
         rotate_left
         ·
          simp only [Act.put,zzq,zzr,zzs,i64_w,i32_w];rfl
         refine pure_ (i:=7) (N:=some 22) (v:=undef) (a':=?_) (zzB 18 255) rfl rfl (zzA2 HT_.out) (fun _ _ _ h=>h) (Or.inr ⟨by rfl,rfl⟩) ?_ ?_;rotate_left
         ·
          simp only [Act.put,zzq,zzr,zzs,i64_w,i32_w];rfl
         refine pure_ (i:=8) (N:=some 23) (v:=undef) (a':=?_) (zzB 18 511) rfl rfl (zzA2 HT_.out) (fun _ _ _ h=>h) (Or.inr ⟨by rfl,rfl⟩) ?_ ?_;rotate_left
         ·
          simp only [Act.put,zzq,zzr,zzs,i64_w,i32_w];rfl
         refine pure_ (i:=9) (N:=some 24) (v:=undef) (a':=?_) (zzB 18 1023) rfl rfl (zzA2 HT_.out) (fun _ _ _ h=>h) (Or.inr ⟨by rfl,rfl⟩) ?_ ?_;rotate_left
         ·
          simp only [Act.put,zzq,zzr,zzs,i64_w,i32_w];rfl
         refine pure_ (i:=10) (N:=some 25) (v:=undef) (a':=?_) (zzB 18 2047) rfl rfl (zzA2 HT_.out) (fun _ _ _ h=>h) (Or.inr ⟨by rfl,rfl⟩) ?_ ?_;rotate_left
         ·
          simp only [Act.put,zzq,zzr,zzs,i64_w,i32_w];rfl
         refine pure_ (i:=11) (N:=some 26) (v:=undef) (a':=?_) (zzB 18 4095) rfl rfl (zzA2 HT_.out) (fun _ _ _ h=>h) (Or.inr ⟨by rfl,rfl⟩) ?_ ?_;rotate_left
         ·
          simp only [Act.put,zzq,zzr,zzs,i64_w,i32_w];rfl
         refine pure_ (i:=12) (N:=some 27) (v:=undef) (a':=?_) (zzB 18 8191) rfl rfl (zzA2 HT_.out) (fun _ _ _ h=>h) (Or.inr ⟨by rfl,rfl⟩) ?_ ?_;rotate_left
         ·
          simp only [Act.put,zzq,zzr,zzs,i64_w,i32_w];rfl
         refine pure_ (i:=13) (N:=some 28) (v:=undef) (a':=?_) (zzB 18 16383) rfl rfl (zzA2 HT_.out) (fun _ _ _ h=>h) (Or.inr ⟨by rfl,rfl⟩) ?_ ?_;rotate_left
         ·
          simp only [Act.put,zzq,zzr,zzs,i64_w,i32_w];rfl
         refine pure_ (i:=14) (N:=some 29) (v:=undef) (a':=?_) (zzB 18 32767) rfl rfl (zzA2 HT_.out) (fun _ _ _ h=>h) (Or.inr ⟨by rfl,rfl⟩) ?_ ?_;rotate_left
         ·
          simp only [Act.put,zzq,zzr,zzs,i64_w,i32_w];rfl
         refine pure_ (i:=15) (N:=some 30) (v:=undef) (a':=?_) (zzB 18 65535) rfl rfl (zzA2 HT_.out) (fun _ _ _ h=>h) (Or.inr ⟨by rfl,rfl⟩) ?_ ?_;rotate_left
         ·
          simp only [Act.put,zzq,zzr,zzs,i64_w,i32_w];rfl
         refine pure_ (i:=16) (N:=some 31) (v:=?_) (a':=?_) (zzB 18 131071) rfl rfl (zzA2 HT_.out) (fun _ _ _ h=>h) (Or.inl ⟨by rfl,?_⟩) ?_ ?_;rotate_left
         ·
          intro w';go_simp;with_reducible rfl
         rotate_left
         ·
          simp only [Act.put,zzq,zzr,zzs,i64_w,i32_w];rfl
         refine pure_ (i:=17) (N:=some 32) (v:=?_) (a':=?_) (zzB 18 262143) rfl rfl (zzA2 HT_.out) (fun _ _ _ h=>h) (Or.inl ⟨by rfl,?_⟩) ?_ ?_;rotate_left
         ·
          intro w';go_simp;with_reducible rfl
         rotate_left
         ·
          simp only [Act.put,zzq,zzr,zzs,i64_w,i32_w];rfl
         refine done_ (done_of HT_.out (by kernel_rfl)) ?_;try go_wp2
         go_roundg k1
         case measure=>have:=HK1.out;omega
         case rel=>exact ⟨(wrap64 (x10_1+1)),(by first|rfl|(simp;done)|(simp [*];done)),H',⟨by have:=HK1.out;omega⟩,⟨by repeat (first|(with_reducible first|exact HB.out|apply zza|apply zzb|apply zzc|refine zzd ?_ GE270.out)|exact HB.out)⟩⟩
       ·
        replace c7:=Bool.eq_false_iff.mpr c7;subst c7;have H1:(some false)=some r:=by rw [if_neg (show ¬ (false=true) by decide)] at H;exact H
        clear H;have H:=H1;clear H1;obtain rfl:=Option.some.inj H;have p269 : 0≤(x10_1:Int):=zzt;have q269:x10_1 < (l0.length:Int):=zzt;obtain ⟨ad269,A269_5,c269_5,e269,hx269_0,hx269_1,hx269_2,hx269_3,hx269_4,hx269_5,hl269_5,hi269_5⟩:=at_T27 HR0.out x10_1 p269 q269;cases e269;replace hx269_0:=zzx HB.out hx269_0;replace hx269_1:=zzx HB.out hx269_1;replace hx269_2:=zzx HB.out hx269_2;replace hx269_3:=zzx HB.out hx269_3;replace hx269_4:=zzx HB.out hx269_4;replace hx269_5:=zzx HB.out hx269_5;have HR269_5:=zzm hi269_5;have HC269_5:=zzm hl269_5;clear hi269_5 hl269_5;replace p269:=eq_true p269;replace q269:=eq_true q269;try go_wp2_with (first|((with_reducible refine gate_dst (N:=4) rfl ?_);refine box_event ?hg (N:=4) ?hd (cs:=#[.bool false,.bool false,.int .i64 0,.int .i64 0,.int .i64 0,.slice none 0 0]) (t:=27) ?hr ?_;(case hd=>rfl);(case hg=>rfl);(case hr=>first|(go_simp;done)|(go_simp;rfl));intro gb270 hg w34 hbox hb;have n0_:=zzm (zzp zzh1 hb);have n1_:=zzm (hbox);have n2_:=zzm ((by rw [hg];exact (zzo zzh1):w.heap.size≤gb270));have n3_:=zzm ((by rw [hg];exact (zzo zzh1):w.heap.size≤gb270));clear HB;have HB:=n0_;have BK270:=n1_;have GW270:=n2_;have GE270:=n3_;clear n0_ n1_ n2_ n3_ hb hbox hg;obtain ⟨hcz35_0,hcz35_1,hcz35_2,hcz35_3,hcz35_4,hcz35_5,hfz35_0,hfz35_1,hfz35_2,hfz35_3,hfz35_4,hfz35_5⟩:=zzc6 BK270.out))
        have n0_:Aside0 (((((((w34.setCell ⟨gb270,0,none⟩ (.bool ((rd_T27 l0 x10_1).f0))).setCell ⟨gb270,1,none⟩ (.bool ((rd_T27 l0 x10_1).f1))).setCell ⟨gb270,2,none⟩ (.int .i64 ((rd_T27 l0 x10_1).f2))).setCell ⟨gb270,3,none⟩ (.int .i64 ((rd_T27 l0 x10_1).f3))).setCell ⟨gb270,4,none⟩ (.int .i64 ((rd_T27 l0 x10_1).f4))).setCell ⟨gb270,5,none⟩ (.slice A269_5 ((rd_T27 l0 x10_1).f5).length c269_5)).heap[gb270]? = some (.cells #[.bool ((rd_T27 l0 x10_1).f0),.bool ((rd_T27 l0 x10_1).f1),.int .i64 ((rd_T27 l0 x10_1).f2),.int .i64 ((rd_T27 l0 x10_1).f3),.int .i64 ((rd_T27 l0 x10_1).f4),.slice A269_5 ((rd_T27 l0 x10_1).f5).length c269_5] 27 (0,0))):=⟨by (with_reducible repeat (first|apply zzf|apply zzg|apply zze));refine zzi (cs:=#[.bool ((rd_T27 l0 x10_1).f0),.bool ((rd_T27 l0 x10_1).f1),.int .i64 ((rd_T27 l0 x10_1).f2),.int .i64 ((rd_T27 l0 x10_1).f3),.int .i64 ((rd_T27 l0 x10_1).f4),.slice none 0 0]) ?_ 5 _ rfl;(with_reducible repeat (first|apply zzf|apply zzg|apply zze));refine zzi (cs:=#[.bool ((rd_T27 l0 x10_1).f0),.bool ((rd_T27 l0 x10_1).f1),.int .i64 ((rd_T27 l0 x10_1).f2),.int .i64 ((rd_T27 l0 x10_1).f3),.int .i64 0,.slice none 0 0]) ?_ 4 _ rfl;(with_reducible repeat (first|apply zzf|apply zzg|apply zze));refine zzi (cs:=#[.bool ((rd_T27 l0 x10_1).f0),.bool ((rd_T27 l0 x10_1).f1),.int .i64 ((rd_T27 l0 x10_1).f2),.int .i64 0,.int .i64 0,.slice none 0 0]) ?_ 3 _ rfl;(with_reducible repeat (first|apply zzf|apply zzg|apply zze));refine zzi (cs:=#[.bool ((rd_T27 l0 x10_1).f0),.bool ((rd_T27 l0 x10_1).f1),.int .i64 0,.int .i64 0,.int .i64 0,.slice none 0 0]) ?_ 2 _ rfl;(with_reducible repeat (first|apply zzf|apply zzg|apply zze));refine zzi (cs:=#[.bool ((rd_T27 l0 x10_1).f0),.bool false,.int .i64 0,.int .i64 0,.int .i64 0,.slice none 0 0]) ?_ 1 _ rfl;(with_reducible repeat (first|apply zzf|apply zzg|apply zze));refine zzi (cs:=#[.bool false,.bool false,.int .i64 0,.int .i64 0,.int .i64 0,.slice none 0 0]) ?_ 0 _ rfl;(with_reducible repeat (first|apply zzf|apply zzg|apply zze));exact BK270.out⟩;have n1_:Aside0 (Below w.heap.size w ((((((w34.setCell ⟨gb270,0,none⟩ (.bool ((rd_T27 l0 x10_1).f0))).setCell ⟨gb270,1,none⟩ (.bool ((rd_T27 l0 x10_1).f1))).setCell ⟨gb270,2,none⟩ (.int .i64 ((rd_T27 l0 x10_1).f2))).setCell ⟨gb270,3,none⟩ (.int .i64 ((rd_T27 l0 x10_1).f3))).setCell ⟨gb270,4,none⟩ (.int .i64 ((rd_T27 l0 x10_1).f4))).setCell ⟨gb270,5,none⟩ (.slice A269_5 ((rd_T27 l0 x10_1).f5).length c269_5))):=⟨by repeat (first|(with_reducible first|exact HB.out|apply zza|apply zzb|apply zzc|refine zzd ?_ GE270.out)|exact HB.out)⟩;(try clear BK270);(try clear HB);generalize ((((((w34.setCell ⟨gb270,0,none⟩ (.bool ((rd_T27 l0 x10_1).f0))).setCell ⟨gb270,1,none⟩ (.bool ((rd_T27 l0 x10_1).f1))).setCell ⟨gb270,2,none⟩ (.int .i64 ((rd_T27 l0 x10_1).f2))).setCell ⟨gb270,3,none⟩ (.int .i64 ((rd_T27 l0 x10_1).f3))).setCell ⟨gb270,4,none⟩ (.int .i64 ((rd_T27 l0 x10_1).f4))).setCell ⟨gb270,5,none⟩ (.slice A269_5 ((rd_T27 l0 x10_1).f5).length c269_5))=w36 at n0_ n1_ ⊢;have BK270:=n0_;have HB:=n1_;clear n0_ n1_;have n0_:=zzm (zzg BK270.out);have n1_:=zzm (zzc HB.out);clear BK270 HB;have BK270:=n0_;have HB:=n1_;clear n0_ n1_;refine start_ (n:=18) (S:=fun w'=>w'.cell? ⟨gb270,0,none⟩=some (.bool ((rd_T27 l0 x10_1).f0))∧w'.cell? ⟨gb270,1,none⟩=some (.bool ((rd_T27 l0 x10_1).f1))∧w'.cell? ⟨gb270,2,none⟩=some (.int .i64 ((rd_T27 l0 x10_1).f2))∧w'.cell? ⟨gb270,3,none⟩=some (.int .i64 ((rd_T27 l0 x10_1).f3))∧w'.cell? ⟨gb270,4,none⟩=some (.int .i64 ((rd_T27 l0 x10_1).f4))∧w'.cell? ⟨gb270,5,none⟩=some (.slice A269_5 ((rd_T27 l0 x10_1).f5).length c269_5)) (ds:=[]) (zzB 18 0) (by kernel_rfl) rfl rfl ⟨(zzk BK270.out 0).trans rfl,(zzk BK270.out 1).trans rfl,(zzk BK270.out 2).trans rfl,(zzk BK270.out 3).trans rfl,(zzk BK270.out 4).trans rfl,(zzk BK270.out 5).trans rfl⟩ (fun hHeld=>?_);refine with_tabW impl_LogValid.tab6 impl_LogValid.bits6 (fun HT_ HW_=>?_);generalize w36.drew=w37 at BK270 HB hHeld ⊢;refine take_ (i:=0) (N:=some 15) (v:=?_) (a':=?_) (zzB 18 1) rfl rfl (take_ofW HT_.out HW_.out (by kernel_rfl)) (fun _ _ _ h=>h) (Or.inl ⟨by rfl,?_⟩) hHeld ?_ ?_;rotate_left
        ·
         rintro w' ⟨s0,s1,s2,s3,s4,s5⟩;go_simp;with_reducible rfl
        rotate_left
        ·
         simp only [Act.put,zzq,zzr,zzs,i64_w,i32_w];rfl
        refine one_ (i:=1) (N:=some 16) (zzB 18 3) rfl rfl (one_of HT_.out (by kernel_rfl)) (by decide) (fun K hK=>?_);refine goes_ Try.func22 (by kernel_rfl) rfl #[.agg #[.bool ((rd_T27 l0 x10_1).f0),.bool ((rd_T27 l0 x10_1).f1),.int .i64 ((rd_T27 l0 x10_1).f2),.int .i64 ((rd_T27 l0 x10_1).f3),.int .i64 ((rd_T27 l0 x10_1).f4),.slice A269_5 ((rd_T27 l0 x10_1).f5).length c269_5]] (by rfl) rfl rfl zzM2 ?_;with_reducible refine (impl_BatchValid.calls k1 ((rd_T27 l0 x10_1).f0) ((rd_T27 l0 x10_1).f1) ((rd_T27 l0 x10_1).f2) ((rd_T27 l0 x10_1).f3) ((rd_T27 l0 x10_1).f4) _ _ ((rd_T27 l0 x10_1).f5) false _ ?side1 ?side2 A6.out).mono ?_;(case side1=>repeat (first|exact (Kd.C_below HR269_5.out HB.out)|(with_reducible refine Kd.C_alloc ?_ _)|(with_reducible refine Kd.C_drewN ?_ _)|(with_reducible refine Kd.C_drew ?_)));(case side2=>exact HC269_5.out);rintro e w38 ⟨rfl,hb⟩;refine ⟨_,rfl,?_⟩;have n0_:=zzm (zzh (g:=gb270) (o:=.cells #[.bool ((rd_T27 l0 x10_1).f0),.bool ((rd_T27 l0 x10_1).f1),.int .i64 ((rd_T27 l0 x10_1).f2),.int .i64 ((rd_T27 l0 x10_1).f3),.int .i64 ((rd_T27 l0 x10_1).f4),.slice A269_5 ((rd_T27 l0 x10_1).f5).length c269_5] 27 (0,0)) (zzE BK270.out) hb);have n1_:=zzm (zzp zzh2 hb);clear BK270 HB;have BK270:=n0_;have HB:=n1_;clear n0_ n1_;(try clear hb);(try clear hb2);(try clear hk);(try clear hi);refine hK.out _ _ ⟨(zzk BK270.out 0).trans rfl,(zzk BK270.out 1).trans rfl,(zzk BK270.out 2).trans rfl,(zzk BK270.out 3).trans rfl,(zzk BK270.out 4).trans rfl,(zzk BK270.out 5).trans rfl⟩ (fun hHeld=>?_);clear hK K;refine norm_ (a':=?_) ?_ ?_;rotate_left
        ·
         show Act.put _ (some 16) _ = _;simp only [Act.put,zzq,zzr,zzs,i64_w,i32_w];rfl
        refine pure_ (i:=2) (N:=some 17) (v:=?_) (a':=?_) (zzB 18 7) rfl rfl (zzA2 HT_.out) (fun _ _ _ h=>h) (Or.inl ⟨by rfl,?_⟩) ?_ ?_;rotate_left
        ·
         intro w';go_simp;with_reducible rfl
        rotate_left
        ·
         simp only [Act.put,zzq,zzr,zzs,i64_w,i32_w];rfl
        refine pure_ (i:=3) (N:=some 18) (v:=?_) (a':=?_) (zzB 18 15) rfl rfl (zzA2 HT_.out) (fun _ _ _ h=>h) (Or.inl ⟨by rfl,?_⟩) ?_ ?_;rotate_left
        ·
         intro w';go_simp;with_reducible rfl
        rotate_left
        ·
         simp only [Act.put,zzq,zzr,zzs,i64_w,i32_w];rfl
        refine pure_ (i:=4) (N:=some 19) (v:=undef) (a':=?_) (zzB 18 31) rfl rfl (zzA2 HT_.out) (fun _ _ _ h=>h) (Or.inr ⟨by rfl,rfl⟩) ?_ ?_;rotate_left
        ·
         simp only [Act.put,zzq,zzr,zzs,i64_w,i32_w];rfl
        refine pure_ (i:=5) (N:=some 20) (v:=undef) (a':=?_) (zzB 18 63) rfl rfl (zzA2 HT_.out) (fun _ _ _ h=>h) (Or.inr ⟨by rfl,rfl⟩) ?_ ?_;rotate_left
        ·
         simp only [Act.put,zzq,zzr,zzs,i64_w,i32_w];rfl
        refine pure_ (i:=6) (N:=some 21) (v:=undef) (a':=?_) (zzB 18 127) rfl rfl (zzA2 HT_.out) (fun _ _ _ h=>h) (Or.inr ⟨by rfl,rfl⟩) ?_ ?_;rotate_left
        ·
         simp only [Act.put,zzq,zzr,zzs,i64_w,i32_w];rfl
        refine pure_ (i:=7) (N:=some 22) (v:=undef) (a':=?_) (zzB 18 255) rfl rfl (zzA2 HT_.out) (fun _ _ _ h=>h) (Or.inr ⟨by rfl,rfl⟩) ?_ ?_;rotate_left
        ·
         simp only [Act.put,zzq,zzr,zzs,i64_w,i32_w];rfl
        refine pure_ (i:=8) (N:=some 23) (v:=undef) (a':=?_) (zzB 18 511) rfl rfl (zzA2 HT_.out) (fun _ _ _ h=>h) (Or.inr ⟨by rfl,rfl⟩) ?_ ?_;rotate_left
        ·
         simp only [Act.put,zzq,zzr,zzs,i64_w,i32_w];rfl
        refine pure_ (i:=9) (N:=some 24) (v:=undef) (a':=?_) (zzB 18 1023) rfl rfl (zzA2 HT_.out) (fun _ _ _ h=>h) (Or.inr ⟨by rfl,rfl⟩) ?_ ?_;rotate_left
        ·
         simp only [Act.put,zzq,zzr,zzs,i64_w,i32_w];rfl
        refine pure_ (i:=10) (N:=some 25) (v:=undef) (a':=?_) (zzB 18 2047) rfl rfl (zzA2 HT_.out) (fun _ _ _ h=>h) (Or.inr ⟨by rfl,rfl⟩) ?_ ?_;rotate_left
        ·
         simp only [Act.put,zzq,zzr,zzs,i64_w,i32_w];rfl
        refine pure_ (i:=11) (N:=some 26) (v:=undef) (a':=?_) (zzB 18 4095) rfl rfl (zzA2 HT_.out) (fun _ _ _ h=>h) (Or.inr ⟨by rfl,rfl⟩) ?_ ?_;rotate_left
        ·
         simp only [Act.put,zzq,zzr,zzs,i64_w,i32_w];rfl
        refine pure_ (i:=12) (N:=some 27) (v:=undef) (a':=?_) (zzB 18 8191) rfl rfl (zzA2 HT_.out) (fun _ _ _ h=>h) (Or.inr ⟨by rfl,rfl⟩) ?_ ?_;rotate_left
        ·
         simp only [Act.put,zzq,zzr,zzs,i64_w,i32_w];rfl
        refine pure_ (i:=13) (N:=some 28) (v:=undef) (a':=?_) (zzB 18 16383) rfl rfl (zzA2 HT_.out) (fun _ _ _ h=>h) (Or.inr ⟨by rfl,rfl⟩) ?_ ?_;rotate_left
        ·
         simp only [Act.put,zzq,zzr,zzs,i64_w,i32_w];rfl
        refine pure_ (i:=14) (N:=some 29) (v:=undef) (a':=?_) (zzB 18 32767) rfl rfl (zzA2 HT_.out) (fun _ _ _ h=>h) (Or.inr ⟨by rfl,rfl⟩) ?_ ?_;rotate_left
        ·
         simp only [Act.put,zzq,zzr,zzs,i64_w,i32_w];rfl
        refine pure_ (i:=15) (N:=some 30) (v:=undef) (a':=?_) (zzB 18 65535) rfl rfl (zzA2 HT_.out) (fun _ _ _ h=>h) (Or.inr ⟨by rfl,rfl⟩) ?_ ?_;rotate_left
        ·
         simp only [Act.put,zzq,zzr,zzs,i64_w,i32_w];rfl
        refine pure_ (i:=16) (N:=some 31) (v:=undef) (a':=?_) (zzB 18 131071) rfl rfl (zzA2 HT_.out) (fun _ _ _ h=>h) (Or.inr ⟨by rfl,rfl⟩) ?_ ?_;rotate_left
        ·
         simp only [Act.put,zzq,zzr,zzs,i64_w,i32_w];rfl
        refine pure_ (i:=17) (N:=some 32) (v:=?_) (a':=?_) (zzB 18 262143) rfl rfl (zzA2 HT_.out) (fun _ _ _ h=>h) (Or.inl ⟨by rfl,?_⟩) ?_ ?_;rotate_left
        ·
         intro w';go_simp;with_reducible rfl
        rotate_left
        ·
         simp only [Act.put,zzq,zzr,zzs,i64_w,i32_w];rfl
        refine done_ (done_of HT_.out (by kernel_rfl)) ?_;try go_wp2
        go_ret;exact ⟨by first|rfl|(simp [errW_none,errW_some] <;> rfl)|(simp [*,errW_none,errW_some] <;> rfl),by repeat (first|(with_reducible first|exact HB.out|apply zza|apply zzb|apply zzc|refine zzd ?_ GE270.out)|exact HB.out)⟩
      ·
       rw [if_neg c5] at H;exact absurd H (by simp)
     ·
      rw [if_neg c4] at H;exact absurd H (by simp)
    ·
     rw [if_neg c3] at H;have c3b0:decide (x10_1 < (l0.length:Int))=false:=decide_eq_false c3;clear c3;obtain rfl:=Option.some.inj H;go_wp2;go_ret;exact ⟨by first|rfl|(simp [errW_none,errW_some] <;> rfl)|(simp [*,errW_none,errW_some] <;> rfl),zzh1⟩
def impl_ReadEnd.f (k:Nat) (l0:List (S27)):Option (Int):=(impl_LogValid.f k l0).bind fun t275=>(if t275=true then (if (l0.length:Int)=0 then (some 0) else (if 0≤(wrap64 ((l0.length:Int) - 1)) then (if (wrap64 ((l0.length:Int) - 1)) < (l0.length:Int) then ((impl_Batch_last.f ((rd_T27 l0 (wrap64 ((l0.length:Int) - 1))).f0) ((rd_T27 l0 (wrap64 ((l0.length:Int) - 1))).f1) ((rd_T27 l0 (wrap64 ((l0.length:Int) - 1))).f2) ((rd_T27 l0 (wrap64 ((l0.length:Int) - 1))).f3) ((rd_T27 l0 (wrap64 ((l0.length:Int) - 1))).f4) ((rd_T27 l0 (wrap64 ((l0.length:Int) - 1))).f5)).bind fun t277=>(some (wrap64 (t277+1)))) else (none)) else (none))) else (some (-1)))
set_option maxHeartbeats 8000000 in
set_option maxRecDepth 100000 in
theorem impl_ReadEnd.calls (k:Nat) (A0:Option Addr) (c0:Nat) (l0:List (S27)) (r:Int) (w:World) (hr0:Kd.C k27 w A0 l0.length l0) (hc0:l0.length≤c0) (h:impl_ReadEnd.f k l0=some r) :
  Calls Try.prog 30 #[.slice A0 l0.length c0] w fun e w'=>e = .returned (.int .i64 r)∧Below w.heap.size w w':=by
 have hu27:=Try.underlying27;have HR0:=zzm hr0;have HC0:=zzm hc0;clear hr0 hc0;have HB:=zzm (Below.refl w.heap.size w);have H:((impl_LogValid.f k l0).bind fun t275=>(if t275=true then (if (l0.length:Int)=0 then (some 0) else (if 0≤(wrap64 ((l0.length:Int) - 1)) then (if (wrap64 ((l0.length:Int) - 1)) < (l0.length:Int) then ((impl_Batch_last.f ((rd_T27 l0 (wrap64 ((l0.length:Int) - 1))).f0) ((rd_T27 l0 (wrap64 ((l0.length:Int) - 1))).f1) ((rd_T27 l0 (wrap64 ((l0.length:Int) - 1))).f2) ((rd_T27 l0 (wrap64 ((l0.length:Int) - 1))).f3) ((rd_T27 l0 (wrap64 ((l0.length:Int) - 1))).f4) ((rd_T27 l0 (wrap64 ((l0.length:Int) - 1))).f5)).bind fun t277=>(some (wrap64 (t277+1)))) else (none)) else (none))) else (some (-1))))=some r:=h;clear h;replace H:=Option.bind_eq_some_iff.mp H;obtain ⟨t275,A20,H⟩:=H;replace H:(if t275=true then (if (l0.length:Int)=0 then (some 0) else (if 0≤(wrap64 ((l0.length:Int) - 1)) then (if (wrap64 ((l0.length:Int) - 1)) < (l0.length:Int) then ((impl_Batch_last.f ((rd_T27 l0 (wrap64 ((l0.length:Int) - 1))).f0) ((rd_T27 l0 (wrap64 ((l0.length:Int) - 1))).f1) ((rd_T27 l0 (wrap64 ((l0.length:Int) - 1))).f2) ((rd_T27 l0 (wrap64 ((l0.length:Int) - 1))).f3) ((rd_T27 l0 (wrap64 ((l0.length:Int) - 1))).f4) ((rd_T27 l0 (wrap64 ((l0.length:Int) - 1))).f5)).bind fun t277=>(some (wrap64 (t277+1)))) else (none)) else (none))) else (some (-1)))=some r:=H;have A2:=zzm A20;clear A20;by_cases c3:t275=true
 ·
  subst c3;have H1:(if (l0.length:Int)=0 then (some 0) else (if 0≤(wrap64 ((l0.length:Int) - 1)) then (if (wrap64 ((l0.length:Int) - 1)) < (l0.length:Int) then ((impl_Batch_last.f ((rd_T27 l0 (wrap64 ((l0.length:Int) - 1))).f0) ((rd_T27 l0 (wrap64 ((l0.length:Int) - 1))).f1) ((rd_T27 l0 (wrap64 ((l0.length:Int) - 1))).f2) ((rd_T27 l0 (wrap64 ((l0.length:Int) - 1))).f3) ((rd_T27 l0 (wrap64 ((l0.length:Int) - 1))).f4) ((rd_T27 l0 (wrap64 ((l0.length:Int) - 1))).f5)).bind fun t277=>(some (wrap64 (t277+1)))) else (none)) else (none)))=some r:=by rw [if_pos rfl] at H;exact H
  clear H;have H:=H1;clear H1;by_cases c4:(l0.length:Int)=0
  ·
   rw [if_pos c4] at H;have c4b0:((l0.length:Int)==0)=true:=beq_iff_eq.mpr c4;have c4b1:((l0.length:Int) != 0)=false:=bne_eq_false_iff_eq.mpr c4;clear c4;obtain rfl:=Option.some.inj H;go_enter Try.func30,Try.ntmps30;go_wp2_with (first|((with_reducible refine gate_callee (f:=61) rfl ?_);refine goesL_ (some 5) rfl rfl Try.func61 (by kernel_rfl) rfl #[.slice A0 l0.length c0] rfl zzM2 ?_;(with_reducible refine (impl_LogValid.calls k _ _ l0 true _ ?side1 ?side2 A2.out).mono ?_);(case side1=>repeat (first|exact HR0.out|(with_reducible refine Kd.C_alloc ?_ _)|(with_reducible refine Kd.C_drewN ?_ _)|(with_reducible refine Kd.C_drew ?_)));(case side2=>exact HC0.out);rintro e w5 ⟨rfl,hb⟩;refine ⟨_,rfl,?_⟩;have n0_:=zzm (zzp zzh1 hb);clear HB;have HB:=n0_;clear n0_;(try clear hb);(try clear hb2);(try clear hk);(try clear hi)));go_ret;exact ⟨by first|rfl|(simp [errW_none,errW_some] <;> rfl)|(simp [*,errW_none,errW_some] <;> rfl),zzh1⟩
  ·
   rw [if_neg c4] at H;have c4b0:((l0.length:Int)==0)=false:=beq_eq_false_iff_ne.mpr c4;have c4b1:((l0.length:Int) != 0)=true:=bne_iff_ne.mpr c4;have c4b2:¬ (l0 = []):=fun h_=>c4 (by rw [h_];rfl);obtain ⟨ji6,hji6⟩:∃ j_:Int,(wrap64 ((l0.length:Int) - 1))=j_:=⟨_,rfl⟩;replace H:(if 0≤(ji6) then (if (ji6) < (l0.length:Int) then ((impl_Batch_last.f ((rd_T27 l0 (ji6)).f0) ((rd_T27 l0 (ji6)).f1) ((rd_T27 l0 (ji6)).f2) ((rd_T27 l0 (ji6)).f3) ((rd_T27 l0 (ji6)).f4) ((rd_T27 l0 (ji6)).f5)).bind fun t277=>(some (wrap64 (t277+1)))) else (none)) else (none))=some r:=by first|(rw [hji6] at H;exact H)|(simp only [hji6] at H ⊢;exact H)
   (try rw [hji6] at A2);have hji6w:(IntKind.i64.wrap ((l0.length:Int) - 1))=ji6:=(i64_w _).trans hji6;by_cases c7 : 0≤(ji6)
   ·
    rw [if_pos c7] at H;have c7b0:decide (0≤(ji6))=true:=decide_eq_true c7;clear c7;by_cases c8:(ji6) < (l0.length:Int)
    ·
     rw [if_pos c8] at H;have c8b0:decide ((ji6) < (l0.length:Int))=true:=decide_eq_true c8;clear c8;replace H:=Option.bind_eq_some_iff.mp H;obtain ⟨t277,A90,H⟩:=H;replace H:(some (wrap64 (t277+1)))=some r:=H;have A9:=zzm A90;clear A90;obtain rfl:=Option.some.inj H;go_enter Try.func30,Try.ntmps30;go_wp2_with (first|((with_reducible refine gate_callee (f:=61) rfl ?_);refine goesL_ (some 5) rfl rfl Try.func61 (by kernel_rfl) rfl #[.slice A0 l0.length c0] rfl zzM2 ?_;(with_reducible refine (impl_LogValid.calls k _ _ l0 true _ ?side1 ?side2 A2.out).mono ?_);(case side1=>repeat (first|exact HR0.out|(with_reducible refine Kd.C_alloc ?_ _)|(with_reducible refine Kd.C_drewN ?_ _)|(with_reducible refine Kd.C_drew ?_)));(case side2=>exact HC0.out);rintro e w10 ⟨rfl,hb⟩;refine ⟨_,rfl,?_⟩;have n0_:=zzm (zzp zzh1 hb);clear HB;have HB:=n0_;clear n0_;(try clear hb);(try clear hb2);(try clear hk);(try clear hi);have p276 : 0≤((ji6):Int):=zzt;have q276:(ji6) < (l0.length:Int):=zzt;obtain ⟨ad276,A276_5,c276_5,e276,hx276_0,hx276_1,hx276_2,hx276_3,hx276_4,hx276_5,hl276_5,hi276_5⟩:=at_T27 HR0.out (ji6) p276 q276;cases e276;replace hx276_0:=zzx HB.out hx276_0;replace hx276_1:=zzx HB.out hx276_1;replace hx276_2:=zzx HB.out hx276_2;replace hx276_3:=zzx HB.out hx276_3;replace hx276_4:=zzx HB.out hx276_4;replace hx276_5:=zzx HB.out hx276_5;have HR276_5:=zzm hi276_5;have HC276_5:=zzm hl276_5;clear hi276_5 hl276_5;replace p276:=eq_true p276;replace q276:=eq_true q276)|((with_reducible refine gate_callee (f:=65) rfl ?_);refine goesL_ (some 17) rfl rfl Try.func65 (by kernel_rfl) rfl #[.agg #[.bool ((rd_T27 l0 (ji6)).f0),.bool ((rd_T27 l0 (ji6)).f1),.int .i64 ((rd_T27 l0 (ji6)).f2),.int .i64 ((rd_T27 l0 (ji6)).f3),.int .i64 ((rd_T27 l0 (ji6)).f4),.slice A276_5 ((rd_T27 l0 (ji6)).f5).length c276_5]] rfl (by (try simp only [map_toArray,map_cons,map_nil]);first|done|(simp only [hji6];rfl)|rfl|(simp only [length_drop,length_take];rfl)) ?_;(with_reducible refine (impl_Batch_last.calls ((rd_T27 l0 (ji6)).f0) ((rd_T27 l0 (ji6)).f1) ((rd_T27 l0 (ji6)).f2) ((rd_T27 l0 (ji6)).f3) ((rd_T27 l0 (ji6)).f4) _ _ ((rd_T27 l0 (ji6)).f5) t277 _ ?side1 ?side2 A9.out).mono ?_);(case side1=>repeat (first|exact (Kd.C_below HR276_5.out HB.out)|(with_reducible refine Kd.C_alloc ?_ _)|(with_reducible refine Kd.C_drewN ?_ _)|(with_reducible refine Kd.C_drew ?_)));(case side2=>exact HC276_5.out);rintro e w11 ⟨rfl,hb⟩;refine ⟨_,rfl,?_⟩;have n0_:=zzm (zzp zzh1 hb);clear HB;have HB:=n0_;clear n0_;(try clear hb);(try clear hb2);(try clear hk);(try clear hi)));go_ret;exact ⟨by first|rfl|(simp [errW_none,errW_some] <;> rfl)|(simp only [← hji6];first|rfl|(simp [errW_none,errW_some] <;> rfl))|(simp [*,errW_none,errW_some] <;> rfl),zzh1⟩
    ·
     rw [if_neg c8] at H;exact absurd H (by simp)
   ·
    rw [if_neg c7] at H;exact absurd H (by simp)
 ·
  replace c3:=Bool.eq_false_iff.mpr c3;subst c3;have H1:(some (-1))=some r:=by rw [if_neg (show ¬ (false=true) by decide)] at H;exact H
  clear H;have H:=H1;clear H1;obtain rfl:=Option.some.inj H;go_enter Try.func30,Try.ntmps30;go_wp2_with (first|((with_reducible refine gate_callee (f:=61) rfl ?_);refine goesL_ (some 5) rfl rfl Try.func61 (by kernel_rfl) rfl #[.slice A0 l0.length c0] rfl zzM2 ?_;(with_reducible refine (impl_LogValid.calls k _ _ l0 false _ ?side1 ?side2 A2.out).mono ?_);(case side1=>repeat (first|exact HR0.out|(with_reducible refine Kd.C_alloc ?_ _)|(with_reducible refine Kd.C_drewN ?_ _)|(with_reducible refine Kd.C_drew ?_)));(case side2=>exact HC0.out);rintro e w12 ⟨rfl,hb⟩;refine ⟨_,rfl,?_⟩;have n0_:=zzm (zzp zzh1 hb);clear HB;have HB:=n0_;clear n0_;(try clear hb);(try clear hb2);(try clear hk);(try clear hi)));go_ret;exact ⟨by first|rfl|(simp [errW_none,errW_some] <;> rfl)|(simp [*,errW_none,errW_some] <;> rfl),zzh1⟩
def slices_Equal_int_int.l0:Nat→List Int→List Int→Int→Int→Option (Bool)
 | 0,_,_,_,_=>none
 | k+1,x0,x1,x12,x13=>if x13 < x12 then (if 0≤x13 then (if x13 < (x0.length:Int) then (if x13 < (x1.length:Int) then (if (rd x0 x13)=(rd x1 x13) then (slices_Equal_int_int.l0 k x0 x1 x12 (wrap64 (x13+1))) else (some false)) else (none)) else (none)) else (none)) else (some true)
def slices_Equal_int_int.f (k:Nat) (l0:List Int) (l1:List Int):Option (Bool):=if (l0.length:Int)=(l1.length:Int) then (slices_Equal_int_int.l0 k l0 l1 (l0.length:Int) 0) else (some false)
set_option maxHeartbeats 8000000 in
set_option maxRecDepth 100000 in
theorem slices_Equal_int_int.calls (k:Nat) (A0:Option Addr) (c0:Nat) (l0:List Int) (A1:Option Addr) (c1:Nat) (l1:List Int) (r:Bool) (w:World) (hr0:Kd.C (Kd.int .i64) w A0 l0.length l0) (hc0:l0.length≤c0) (hr1:Kd.C (Kd.int .i64) w A1 l1.length l1) (hc1:l1.length≤c1) (h:slices_Equal_int_int.f k l0 l1=some r) :
  Calls Try.prog 105 #[.slice A0 l0.length c0,.slice A1 l1.length c1] w fun e w'=>e = .returned (.bool r)∧Drawn0 w w':=by
 have HR0:=zzm hr0;have HC0:=zzm hc0;clear hr0 hc0;have HR1:=zzm hr1;have HC1:=zzm hc1;clear hr1 hc1;have H:(if (l0.length:Int)=(l1.length:Int) then (slices_Equal_int_int.l0 k l0 l1 (l0.length:Int) 0) else (some false))=some r:=h;clear h;by_cases c3:(l0.length:Int)=(l1.length:Int)
 ·
  rw [if_pos c3] at H;have c3b0:((l0.length:Int)==(l1.length:Int))=true:=beq_iff_eq.mpr c3;have c3b1:((l0.length:Int) != (l1.length:Int))=false:=bne_eq_false_iff_eq.mpr c3;have c3b2:(l0.length==l1.length)=true:=by first|simpa using c3|(simp at c3 ⊢;omega)
  clear c3;have H':=zzm H;clear H;go_enter Try.func105,Try.ntmps105;go_wp2;repeat (go_quiet (fail);try go_wp2)
  go_loopg [13] k (fun kq v13 w'=>∃ (x13_1:Int),v13 = .int .i64 x13_1∧Aside0 (slices_Equal_int_int.l0 kq l0 l1 (l0.length:Int) x13_1=some r)∧Aside0 (kq≤k)∧Drawn0 w w')
  case atStart=>exact ⟨(0),(by first|rfl|(simp;done)|(simp [*];done)),H',⟨Nat.le_refl _⟩,by repeat (first|exact Drawn0.refl _|apply Drawn0.step)⟩
  case round=>
   clear H';try clear c1
   try clear p2
   try clear c3
   try clear c3b0
   try clear c3b1
   try clear c3b2
   obtain ⟨x13_1,rfl,HA,HK1,⟨m1,rfl⟩⟩:=hrel;cases gk with
   | zero=>exact absurd HA.out (by simp [slices_Equal_int_int.l0])
   | succ k1=>
    have H:=HA.out;clear HA;simp only [slices_Equal_int_int.l0] at H;by_cases c4:x13_1 < (l0.length:Int)
    ·
     rw [if_pos c4] at H;have c4b0:decide (x13_1 < (l0.length:Int))=true:=decide_eq_true c4;clear c4;by_cases c5 : 0≤x13_1
     ·
      rw [if_pos c5] at H;have c5b0:decide (0≤x13_1)=true:=decide_eq_true c5;clear c5;by_cases c6:x13_1 < (l0.length:Int)
      ·
       rw [if_pos c6] at H;have c6b0:decide (x13_1 < (l0.length:Int))=true:=decide_eq_true c6;clear c6;by_cases c7:x13_1 < (l1.length:Int)
       ·
        rw [if_pos c7] at H;have c7b0:decide (x13_1 < (l1.length:Int))=true:=decide_eq_true c7;clear c7;by_cases c8:(rd l0 x13_1)=(rd l1 x13_1)
        ·
         rw [if_pos c8] at H;have c8b0:((rd l0 x13_1)==(rd l1 x13_1))=true:=beq_iff_eq.mpr c8;have c8b1:((rd l0 x13_1) != (rd l1 x13_1))=false:=bne_eq_false_iff_eq.mpr c8;clear c8;have H':=zzm H;clear H;have p278 : 0≤(x13_1:Int):=zzt;have q278:x13_1 < (l0.length:Int):=zzt;obtain ⟨ad278,e278,hx278_0⟩:=Kd.at_int HR0.out x13_1 p278 q278;cases e278;replace p278:=eq_true p278;replace q278:=eq_true q278;have p279 : 0≤(x13_1:Int):=zzt;have q279:x13_1 < (l1.length:Int):=zzt;obtain ⟨ad279,e279,hx279_0⟩:=Kd.at_int HR1.out x13_1 p279 q279;cases e279;replace p279:=eq_true p279;replace q279:=eq_true q279;go_wp2;repeat (go_quiet (fail);try go_wp2)
         go_roundg k1
         case measure=>have:=HK1.out;omega
         case rel=>exact ⟨(wrap64 (x13_1+1)),(by first|rfl|(simp;done)|(simp [*];done)),H',⟨by have:=HK1.out;omega⟩,by repeat (first|exact Drawn0.refl _|apply Drawn0.step)⟩
        ·
         rw [if_neg c8] at H;have c8b0:((rd l0 x13_1)==(rd l1 x13_1))=false:=beq_eq_false_iff_ne.mpr c8;have c8b1:((rd l0 x13_1) != (rd l1 x13_1))=true:=bne_iff_ne.mpr c8;obtain rfl:=Option.some.inj H;have p278 : 0≤(x13_1:Int):=zzt;have q278:x13_1 < (l0.length:Int):=zzt;obtain ⟨ad278,e278,hx278_0⟩:=Kd.at_int HR0.out x13_1 p278 q278;cases e278;replace p278:=eq_true p278;replace q278:=eq_true q278;have p279 : 0≤(x13_1:Int):=zzt;have q279:x13_1 < (l1.length:Int):=zzt;obtain ⟨ad279,e279,hx279_0⟩:=Kd.at_int HR1.out x13_1 p279 q279;cases e279;replace p279:=eq_true p279;replace q279:=eq_true q279;go_wp2;repeat (go_quiet (fail);try go_wp2)
         go_ret;exact ⟨by first|rfl|(simp;done)|(simp [*];done),by repeat (first|exact Drawn0.refl _|apply Drawn0.step)⟩
       ·
        rw [if_neg c7] at H;exact absurd H (by simp)
      ·
       rw [if_neg c6] at H;exact absurd H (by simp)
     ·
      rw [if_neg c5] at H;exact absurd H (by simp)
    ·
     rw [if_neg c4] at H;have c4b0:decide (x13_1 < (l0.length:Int))=false:=decide_eq_false c4;clear c4;obtain rfl:=Option.some.inj H;go_wp2;repeat (go_quiet (fail);try go_wp2)
     go_ret;exact ⟨by first|rfl|(simp;done)|(simp [*];done),by repeat (first|exact Drawn0.refl _|apply Drawn0.step)⟩
 ·
  rw [if_neg c3] at H;have c3b0:((l0.length:Int)==(l1.length:Int))=false:=beq_eq_false_iff_ne.mpr c3;have c3b1:((l0.length:Int) != (l1.length:Int))=true:=bne_iff_ne.mpr c3;have c3b2:(l0.length==l1.length)=false:=by first|simpa using c3|(simp at c3 ⊢;omega)
  obtain rfl:=Option.some.inj H;go_enter Try.func105,Try.ntmps105;go_wp2;repeat (go_quiet (fail);try go_wp2)
  go_ret;exact ⟨by first|rfl|(simp;done)|(simp [*];done),by repeat (first|exact Drawn0.refl _|apply Drawn0.step)⟩
def impl_Batch_tells.f (k:Nat) (a0_0:Bool) (a0_1:Bool) (a0_2:Int) (a0_3:Int) (a0_4:Int) (l0_5:List (S34)):Option (Bool):=if 0 < (l0_5.length:Int) then ((slices_Equal_int_int.f k ((rd_T34 l0_5 0).f5) (([1]:List Int))).bind fun t285=>(some t285)) else (none)
set_option maxHeartbeats 8000000 in
set_option maxRecDepth 100000 in
theorem impl_Batch_tells.calls (k:Nat) (a0_0:Bool) (a0_1:Bool) (a0_2:Int) (a0_3:Int) (a0_4:Int) (A0_5:Option Addr) (c0_5:Nat) (l0_5:List (S34)) (r:Bool) (w:World) (hr0_5:Kd.C k34 w A0_5 l0_5.length l0_5) (hc0_5:l0_5.length≤c0_5) (h:impl_Batch_tells.f k a0_0 a0_1 a0_2 a0_3 a0_4 l0_5=some r) :
  Calls Try.prog 92 #[.agg #[.bool a0_0,.bool a0_1,.int .i64 a0_2,.int .i64 a0_3,.int .i64 a0_4,.slice A0_5 l0_5.length c0_5]] w fun e w'=>e = .returned (.bool r)∧Below w.heap.size w w':=by
 have hu27:=Try.underlying27;have HR0_5:=zzm hr0_5;have HC0_5:=zzm hc0_5;clear hr0_5 hc0_5;have HB:=zzm (Below.refl w.heap.size w);have H:(if 0 < (l0_5.length:Int) then ((slices_Equal_int_int.f k ((rd_T34 l0_5 0).f5) (([1]:List Int))).bind fun t285=>(some t285)) else (none))=some r:=h;clear h;by_cases c2 : 0 < (l0_5.length:Int)
 ·
  rw [if_pos c2] at H;have c2b0:decide (0 < (l0_5.length:Int))=true:=decide_eq_true c2;have c2b1:decide (0 < l0_5.length)=true:=decide_eq_true (by omega);clear c2;obtain ⟨y282,hy282⟩:∃ y_:List Int,y_=(([1]:List Int)):=⟨_,rfl⟩;replace H:((slices_Equal_int_int.f k ((rd_T34 l0_5 0).f5) y282).bind fun t285=>(some t285))=some r:=by first|(rw [hy282];with_reducible exact H)|(have H2_:=(Option.bind_some _ _).symm.trans H;rw [hy282];with_reducible exact H2_)|(have H2_:=(Option.bind_some _ _).symm.trans H;with_reducible exact H2_)|with_reducible exact H|(rw [hy282];exact H)|exact H
  have Ny282:=zzm hy282;clear hy282;replace H:=Option.bind_eq_some_iff.mp H;obtain ⟨t285,A30,H⟩:=H;replace H:(some t285)=some r:=H;have A3:=zzm A30;clear A30;obtain rfl:=Option.some.inj H;go_enter Try.func92,Try.ntmps92;go_wp2_with (first|((with_reducible refine gate_dst (N:=1) rfl ?_);refine box_event ?hg (N:=1) ?hd (cs:=#[.bool a0_0,.bool a0_1,.int .i64 a0_2,.int .i64 a0_3,.int .i64 a0_4,.slice A0_5 l0_5.length c0_5]) (t:=27) ?hr ?_;(case hd=>rfl);(case hg=>rfl);(case hr=>first|(go_simp;done)|(go_simp;rfl));intro gb280 hg w4 hbox hb;have n0_:=zzm (zzp zzh1 hb);have n1_:=zzm (hbox);have n2_:=zzm ((by rw [hg];exact (zzo zzh1):w.heap.size≤gb280));have n3_:=zzm ((by rw [hg];exact (zzo zzh1):w.heap.size≤gb280));clear HB;have HB:=n0_;have BK280:=n1_;have GW280:=n2_;have GE280:=n3_;clear n0_ n1_ n2_ n3_ hb hbox hg;obtain ⟨hcz5_0,hcz5_1,hcz5_2,hcz5_3,hcz5_4,hcz5_5,hfz5_0,hfz5_1,hfz5_2,hfz5_3,hfz5_4,hfz5_5⟩:=zzc6 BK280.out;have p281 : 0≤(0:Int):=(by omega);have q281 : 0 < (l0_5.length:Int):=zzt;obtain ⟨ad281,A281_3,c281_3,A281_5,c281_5,e281,hx281_0,hx281_1,hx281_2,hx281_3,hx281_4,hx281_5,hl281_3,hi281_3,hl281_5,hi281_5⟩:=at_T34 HR0_5.out 0 p281 q281;cases e281;have qi281:(0 < l0_5.length)=True:=eq_true (by omega);(try rw [show ((0:Int)).toNat=0 from rfl] at hx281_0);(try rw [show 0 * 6=0 from rfl] at hx281_0);(try rw [Addr.add_zero'] at hx281_0);(try rw [show ((0:Int)).toNat=0 from rfl] at hx281_1);(try rw [show 0 * 6=0 from rfl] at hx281_1);(try rw [Addr.add_zero'] at hx281_1);(try rw [show ((0:Int)).toNat=0 from rfl] at hx281_2);(try rw [show 0 * 6=0 from rfl] at hx281_2);(try rw [Addr.add_zero'] at hx281_2);(try rw [show ((0:Int)).toNat=0 from rfl] at hx281_3);(try rw [show 0 * 6=0 from rfl] at hx281_3);(try rw [Addr.add_zero'] at hx281_3);(try rw [show ((0:Int)).toNat=0 from rfl] at hx281_4);(try rw [show 0 * 6=0 from rfl] at hx281_4);(try rw [Addr.add_zero'] at hx281_4);(try rw [show ((0:Int)).toNat=0 from rfl] at hx281_5);(try rw [show 0 * 6=0 from rfl] at hx281_5);(try rw [Addr.add_zero'] at hx281_5);replace hx281_0:=zzx HB.out hx281_0;replace hx281_1:=zzx HB.out hx281_1;replace hx281_2:=zzx HB.out hx281_2;replace hx281_3:=zzx HB.out hx281_3;replace hx281_4:=zzx HB.out hx281_4;replace hx281_5:=zzx HB.out hx281_5;have HR281_3:=zzm hi281_3;have HC281_3:=zzm hl281_3;clear hi281_3 hl281_3;have HR281_5:=zzm hi281_5;have HC281_5:=zzm hl281_5;clear hi281_5 hl281_5;replace p281:=eq_true p281;replace q281:=eq_true q281)|((with_reducible refine gate_dst (N:=8) rfl ?_);refine Kd.R_lit (Kd.int .i64) _ 3 ?hg (N:=8) ?hd (xs:=([1]:List Int)) (inner:=[.int .i64 1]) (ok:=fun _=>True) (okp:=fun _=>True) ?hr ?hp (fun _ hk=>hk) trivial (Below.refl _ _) (Nat.le_refl _) (by simp) ?_;(case hd=>rfl);(case hg=>rfl);(case hr=>first|(go_simp;done)|(go_simp;rfl));(case hp=>exact (Reps.one (show Kd.M (Kd.int .i64) _ _ _ 1 [.int .i64 1] from rfl) (Reps.none _ _)));intro v283 w6 ho7 hb hg_ hnew_;clear hg_ hnew_;(first|rw [← Ny282.out] at ho7|(simp only [Int.reduceToNat] at ho7;rw [← Ny282.out] at ho7));have n0_:=zzm (Kd.R_lower ho7 (zzo zzh2));have n1_:=zzm (zzh (g:=gb280) (o:=.cells #[.bool a0_0,.bool a0_1,.int .i64 a0_2,.int .i64 a0_3,.int .i64 a0_4,.slice (some ad281) l0_5.length c0_5] 27 (0,0)) (zzE BK280.out) hb);have n2_:=zzm (zzp zzh2 hb);clear BK280 HB;have HO284:=n0_;have BK280:=n1_;have HB:=n2_;clear n0_ n1_ n2_ hb ho7;obtain ⟨Ao8,co8,eo8⟩:=Kd.R_slice HO284.out;subst eo8)|((with_reducible refine gate_callee (f:=105) rfl ?_);refine goesL_ (some 9) rfl rfl Try.func105 (by kernel_rfl) rfl #[.slice A281_5 ((rd_T34 l0_5 0).f5).length c281_5,.slice Ao8 y282.length co8] rfl zzM2 ?_;(with_reducible refine (slices_Equal_int_int.calls k _ _ ((rd_T34 l0_5 0).f5) _ _ y282 t285 _ ?side1 ?side2 ?side3 ?side4 A3.out).mono ?_);(case side1=>repeat (first|exact (Kd.C_below HR281_5.out HB.out)|(with_reducible refine Kd.C_alloc ?_ _)|(with_reducible refine Kd.C_drewN ?_ _)|(with_reducible refine Kd.C_drew ?_)));(case side2=>exact HC281_5.out);(case side3=>repeat (first|exact (Kd.R_reads' HO284.out).2.2|(with_reducible refine Kd.C_alloc ?_ _)|(with_reducible refine Kd.C_drewN ?_ _)|(with_reducible refine Kd.C_drew ?_)));(case side4=>exact (Kd.R_reads' HO284.out).2.1);rintro e w' ⟨rfl,⟨nd,rfl⟩⟩;refine ⟨_,rfl,?_⟩));go_ret;exact ⟨by first|rfl|(simp [errW_none,errW_some] <;> rfl)|(simp [*,errW_none,errW_some] <;> rfl),by repeat (first|(with_reducible first|exact HB.out|apply zza|apply zzb|apply zzc|refine zzd ?_ GE280.out)|exact HB.out)⟩
 ·
  rw [if_neg c2] at H;exact absurd H (by simp)
abbrev rootCells (a c n:Nat):Array Value:=#[.pointer (some ⟨a,0,none⟩),.pointer (some ⟨c,0,none⟩),.pointer none,.nilIface,.int .i64 (n:Int)]
abbrev nodeCells (a c g v:Nat):Array Value:=#[.pointer (some ⟨a,0,none⟩),.pointer (some ⟨c,0,none⟩),.pointer (some ⟨g,0,none⟩),.iface 3 (.int .i64 (v:Int))]
structure IsList (w:World) (g:Nat) (r:Nat→Nat) (vs:List Nat):Prop where
 r0:r 0=g
 rn:r (vs.length+1)=g
 inj:∀ i j,i≤vs.length→j≤vs.length→r i=r j→i=j
 root:w.heap[g]? = some (.cells (rootCells (r 1) (r vs.length) vs.length) 116 (0,0))
 node:∀ j (h:j < vs.length),w.heap[r (j+1)]? = some (.cells (nodeCells (r (j+2)) (r j) g vs[j]) 105 (0,0))
theorem IsList.of_heap {w w1:World} {g:Nat} {r:Nat→Nat} {vs:List Nat} (h:IsList w g r vs) (hm:∀ i,i≤vs.length→w1.heap[r i]? = w.heap[r i]?):IsList w1 g r vs:=
 ⟨h.r0,h.rn,h.inj,by have:=hm 0 (Nat.zero_le _);rw [h.r0] at this;exact this.trans h.root,fun j hj=>(hm (j+1) hj).trans (h.node j hj)⟩
theorem IsList.lt {w:World} {g:Nat} {r:Nat→Nat} {vs:List Nat} (h:IsList w g r vs) (i:Nat) (hi:i≤vs.length):r i < w.heap.size:=by
 cases i with
 | zero=>rw [h.r0];exact blk_lt h.root
 | succ i=>exact blk_lt (h.node i hi)
theorem IsList.below {w w1:World} {g:Nat} {r:Nat→Nat} {vs:List Nat} (h:IsList w g r vs) (hb:Below w.heap.size w w1):IsList w1 g r vs:=h.of_heap fun i hi=>hb.block _ (h.lt i hi)
abbrev zeroRoot:Array Value:=#[.pointer none,.pointer none,.pointer none,.nilIface,.int .i64 0]
set_option maxHeartbeats 8000000 in
set_option maxRecDepth 100000 in
theorem list_Init.calls (g:Nat) (w:World) (hg:w.heap[g]? = some (.cells zeroRoot 116 (0,0))) :
  Calls Try.prog 102 #[.pointer (some ⟨g,0,none⟩)] w fun e w'=>e = .returned (.pointer (some ⟨g,0,none⟩))∧w'.heap[g]? = some (.cells (rootCells g g 0) 116 (0,0))∧∀ B,B≤g→Below B w w':=by
 have HG:=zzm hg;have hf0:=zzl hg 0;have hf1:=zzl hg 1;have hf4:=zzl hg 4;have hc0:w.cell? ⟨g,0,none⟩=some (.pointer none):=(zzk hg 0).trans rfl;have hc1:w.cell? ⟨g,1,none⟩=some (.pointer none):=(zzk hg 1).trans rfl;have hc4:w.cell? ⟨g,4,none⟩=some (.int .i64 0):=(zzk hg 4).trans rfl;clear hg;go_enter Try.func102,Try.ntmps102;go_wp2;go_ret;exact ⟨rfl,zzi (zzi (zzi HG.out 0 _ rfl) 1 _ rfl) 4 _ rfl,fun B hB=>(((Below.refl _ _).setCell (p:=⟨g,0,none⟩) hB _).setCell (p:=⟨g,1,none⟩) hB _).setCell (p:=⟨g,4,none⟩) hB _⟩
theorem alloc_root {o:Oper} (ρ:Operand→Value) (ho:o.op = .alloc 116) (W:World):(execOp ρ o).run Try.prog W = .ok (.value (.pointer (some ⟨W.heap.size,0,none⟩))) (W.alloc (.cells zeroRoot 116 (0,0))):=by
 obtain ⟨i0,hi,hz0,hz1,hz2⟩:=info_parts (show (Try.prog.info? 116).map (fun i=>(i.zero,i.size,i.bytes))=some (some (.agg zeroRoot),5,48) by kernel_rfl);have hz:(zeroValue 116).run Try.prog W = .ok (.agg zeroRoot) W:=by simp [zeroValue,typeInfo,hi,hz0,go_sem]
 obtain ⟨op,dst,guard,pos,x1,x2⟩:=o;subst ho;simp [execOp,Instr.alloc,hz,newVar,newRow,go_sem]
set_option maxHeartbeats 8000000 in
set_option maxRecDepth 100000 in
theorem list_New.calls (w:World) :
  Calls Try.prog 88 #[] w fun e w'=>∃ g r,e = .returned (.pointer (some ⟨g,0,none⟩))∧IsList w' g r []∧w.heap.size≤g∧Below w.heap.size w w':=by
 have HB:=zzm (Below.refl w.heap.size w);go_enter Try.func88,Try.ntmps88;go_wp2_with (first|((with_reducible refine gate_dst (N:=1) rfl ?_);refine box_event ?hg (N:=1) ?hd (cs:=zeroRoot) (t:=116) ?hr ?_;(case hd=>rfl);(case hg=>rfl);(case hr=>exact alloc_root _ rfl _);intro g hg w1 hbox hb;have BK:=zzm hbox;have HB0:=zzm (zzp HB.out hb);have HG:=zzm (show w.heap.size≤g by rw [hg];exact HB.out.size);clear hb hbox hg)|((with_reducible refine gate_callee (f:=102) rfl ?_);refine goesL_ (some 2) rfl rfl Try.func102 (by kernel_rfl) rfl #[.pointer (some ⟨g,0,none⟩)] rfl (by (try simp only [map_toArray,map_cons,map_nil]);first|done|rfl) ?_;(with_reducible refine (list_Init.calls _ _ BK.out).mono ?_);rintro e w9 ⟨rfl,hx,hb⟩;refine ⟨_,rfl,?_⟩;have BK2:=zzm hx;have HB2:=zzm (below_weaken HB0.out HG.out (hb _ (Nat.le_refl _)));clear hb hx));go_ret;refine ⟨g,fun _=>g,rfl,⟨rfl,rfl,fun i j hi hj _=>by simp at hi hj;omega,BK2.out,fun j h=>absurd h (by simp)⟩,HG.out,HB2.out⟩
theorem neq_ptr_other {w:World} {c g:Nat} {cc cg:Array Value} {tc tg:TypeId} (hne:c≠g) (hc:w.heap[c]? = some (.cells cc tc (0,0))) (hg:w.heap[g]? = some (.cells cg tg (0,0))) :
  (binOp .neq 101 (.pointer (some ⟨c,0,none⟩)) (.pointer (some ⟨g,0,none⟩))).run Try.prog w = .ok (.bool true) w:=by
 obtain ⟨i0,hi,hz0,hz1,hz2⟩:=info_parts (show (Try.prog.info? 105).map (fun i=>(i.zero,i.size,i.bytes))=some (some (.agg #[.pointer none,.pointer none,.pointer none,.nilIface]),4,40) by kernel_rfl);have hne' : (⟨c,0,none⟩:Addr)≠⟨g,0,none⟩:=fun e=>hne (by injection e);have h:∀ d:Nat,(Op.equalIn (d+1) 101 (.pointer (some ⟨c,0,none⟩)) (.pointer (some ⟨g,0,none⟩))).run Try.prog w = .ok false w:=fun d=>by
  simp [Op.equalIn,run_underlying Try.underlying101,sizeOf,typeInfo,hi,show i0.size≠0 by omega,run_sameAddr_other w hne' hc hg]
 simp only [binOp];simp [Op.equal,Op.maxDepth,h 9999]
theorem neq_ptr_same {w:World} {g:Nat} : (binOp .neq 101 (.pointer (some ⟨g,0,none⟩)) (.pointer (some ⟨g,0,none⟩))).run Try.prog w = .ok (.bool false) w:=by
 obtain ⟨i0,hi,hz0,hz1,hz2⟩:=info_parts (show (Try.prog.info? 105).map (fun i=>(i.zero,i.size,i.bytes))=some (some (.agg #[.pointer none,.pointer none,.pointer none,.nilIface]),4,40) by kernel_rfl);exact Lib.run_neq_ptr_same w _ Try.underlying101 hi
theorem eql_ptr_same {w:World} {g:Nat} : (binOp .eql 99 (.pointer (some ⟨g,0,none⟩)) (.pointer (some ⟨g,0,none⟩))).run Try.prog w = .ok (.bool true) w:=by
 obtain ⟨i0,hi,hz0,hz1,hz2⟩:=info_parts (show (Try.prog.info? 116).map (fun i=>(i.zero,i.size,i.bytes))=some (some (.agg zeroRoot),5,48) by kernel_rfl);exact run_eql_ptr_same w _ Try.underlying99 hi
set_option maxHeartbeats 8000000 in
set_option maxRecDepth 100000 in
theorem list_Front.calls (g:Nat) (r:Nat→Nat) (vs:List Nat) (w:World) (h:IsList w g r vs) (hn:vs.length < 1000000000000) :
  Calls Try.prog 90 #[.pointer (some ⟨g,0,none⟩)] w fun e w'=>e = .returned (.pointer (if 0 < vs.length then some ⟨r 1,0,none⟩ else none))∧Drawn0 w w':=by
 have hc0:w.cell? ⟨g,0,none⟩=some (.pointer (some ⟨r 1,0,none⟩)):=(zzk h.root 0).trans rfl;have hc4:w.cell? ⟨g,4,none⟩=some (.int .i64 (vs.length:Int)):=(zzk h.root 4).trans rfl;clear h;by_cases hz:vs.length=0
 ·rw [hz] at hc4
  rw [if_neg (by omega)];clear hz;go_enter Try.func90,Try.ntmps90;go_wp2;go_ret;exact ⟨rfl,by repeat (first|exact Drawn0.refl _|apply Drawn0.step)⟩
 ·have hz' : ((vs.length:Int)==0)=false:=by simpa using hz
  rw [if_pos (by omega)];clear hz;go_enter Try.func90,Try.ntmps90;go_wp2;go_ret;exact ⟨rfl,by repeat (first|exact Drawn0.refl _|apply Drawn0.step)⟩
set_option maxHeartbeats 8000000 in
set_option maxRecDepth 100000 in
theorem list_Next.calls (g:Nat) (r:Nat→Nat) (vs:List Nat) (w:World) (h:IsList w g r vs) (p:Nat) (hp:p < vs.length) :
  Calls Try.prog 91 #[.pointer (some ⟨r (p+1),0,none⟩)] w fun e w'=>e = .returned (.pointer (if p+1 < vs.length then some ⟨r (p+2),0,none⟩ else none))∧Drawn0 w w':=by
 have hc0:w.cell? ⟨r (p+1),0,none⟩=some (.pointer (some ⟨r (p+2),0,none⟩)):=(zzk (h.node p hp) 0).trans rfl;have hc2:w.cell? ⟨r (p+1),2,none⟩=some (.pointer (some ⟨g,0,none⟩)):=(zzk (h.node p hp) 2).trans rfl;by_cases hz:p+1 < vs.length
 ·have hne:r (p+2)≠g:=by
   intro e;have:=h.inj (p+2) 0 (by omega) (by omega) (by rw [e,h.r0]);omega
  rw [if_pos hz];have hq:=neq_ptr_other hne (h.node (p+1) hz) h.root;generalize r (p+2)=c at hc0 hne hq ⊢;generalize r (p+1)=b at hc0 hc2 ⊢;clear h hz;go_enter Try.func91,Try.ntmps91;go_wp2;go_ret;exact ⟨rfl,by repeat (first|exact Drawn0.refl _|apply Drawn0.step)⟩
 ·have he:r (p+2)=g:=by rw [show p+2=vs.length+1 by omega];exact h.rn
  rw [if_neg hz];have hq:=neq_ptr_same (w:=w) (g:=g);rw [he] at hc0;generalize r (p+1)=b at hc0 hc2 ⊢;clear h hz he;go_enter Try.func91,Try.ntmps91;go_wp2;go_ret;exact ⟨rfl,by repeat (first|exact Drawn0.refl _|apply Drawn0.step)⟩
set_option maxHeartbeats 8000000 in
set_option maxRecDepth 100000 in
theorem list_lazyInit.calls (g:Nat) (r:Nat→Nat) (vs:List Nat) (w:World) (h:IsList w g r vs) :
  Calls Try.prog 103 #[.pointer (some ⟨g,0,none⟩)] w fun e w'=>e = .returned (.tuple #[])∧Drawn0 w w':=by
 have hc0:w.cell? ⟨g,0,none⟩=some (.pointer (some ⟨r 1,0,none⟩)):=(zzk h.root 0).trans rfl;generalize r 1=c at hc0;clear h;go_enter Try.func103,Try.ntmps103;go_wp2;go_end0;exact ⟨rfl,by repeat (first|exact Drawn0.refl _|apply Drawn0.step)⟩
abbrev freshNode (v:Nat):Array Value:=#[.pointer none,.pointer none,.pointer none,.iface 3 (.int .i64 (v:Int))]
def insW (w:World) (g a b n:Nat):World:=(((((w.setCell ⟨b,1,none⟩ (.pointer (some ⟨a,0,none⟩))).setCell ⟨b,0,none⟩ (.pointer (some ⟨g,0,none⟩))).setCell ⟨a,0,none⟩ (.pointer (some ⟨b,0,none⟩))).setCell ⟨g,1,none⟩ (.pointer (some ⟨b,0,none⟩))).setCell ⟨b,2,none⟩ (.pointer (some ⟨g,0,none⟩))).setCell ⟨g,4,none⟩ (.int .i64 ((n:Int)+1))
set_option maxHeartbeats 8000000 in
set_option maxRecDepth 100000 in
theorem insert_core (w:World) (g a b n:Nat) (x4:Value) (hb0:w.cell? ⟨b,0,none⟩=some (.pointer none)) (hb1:w.cell? ⟨b,1,none⟩=some (.pointer none)) (hb2:w.cell? ⟨b,2,none⟩=some (.pointer none)) (ha0:w.cell? ⟨a,0,none⟩=some (.pointer (some ⟨g,0,none⟩))) (hg1:w.cell? ⟨g,1,none⟩=some x4) (hg4:w.cell? ⟨g,4,none⟩=some (.int .i64 (n:Int)))
  (fb0:w.frozen? ⟨b,0,none⟩=false) (fb1:w.frozen? ⟨b,1,none⟩=false) (fb2:w.frozen? ⟨b,2,none⟩=false) (fa0:w.frozen? ⟨a,0,none⟩=false) (fg1:w.frozen? ⟨g,1,none⟩=false) (fg4:w.frozen? ⟨g,4,none⟩=false)
  (hgb:g≠b) (hab:a≠b) (hw:wrap64 ((n:Int)+1)=(n:Int)+1) :
  Calls Try.prog 111 #[.pointer (some ⟨g,0,none⟩),.pointer (some ⟨b,0,none⟩),.pointer (some ⟨a,0,none⟩)] w fun e w'=>e = .returned (.pointer (some ⟨b,0,none⟩))∧w' = insW w g a b n:=by
 have hbg:b≠g:=fun e=>hgb e.symm;have hba:b≠a:=fun e=>hab e.symm;by_cases hag:a=g
 ·subst hag
  go_enter Try.func111,Try.ntmps111;go_wp2;go_ret;exact ⟨rfl,rfl⟩
 ·have hga:g≠a:=fun e=>hag e.symm
  go_enter Try.func111,Try.ntmps111;go_wp2;go_ret;exact ⟨rfl,rfl⟩
def rAdd (r:Nat→Nat) (n b g:Nat):Nat→Nat:=fun i=>if i≤n then r i else if i=n+1 then b else g
theorem far_eq {w:World} {k:Nat} {p:Addr} {u:Value} {o:Option Obj} (hne:k≠p.block) (h:w.heap[k]? = o):(w.setCell p u).heap[k]? = o:=(Below.heap_setCell w p u k hne).trans h
theorem insW_far {w:World} {g a b n k:Nat} (h1:k≠g) (h2:k≠a) (h3:k≠b):(insW w g a b n).heap[k]? = w.heap[k]?:=
 far_eq h1 (far_eq h3 (far_eq h1 (far_eq h2 (far_eq h3 (far_eq h3 rfl)))))
theorem insW_b {w:World} {g a b n v:Nat} (hgb:g≠b) (hab:a≠b) (h:w.heap[b]? = some (.cells (freshNode v) 105 (0,0))):(insW w g a b n).heap[b]? = some (.cells (nodeCells g a g v) 105 (0,0)):=
 far_eq (Ne.symm hgb) (zzi (far_eq (Ne.symm hgb) (far_eq (Ne.symm hab) (zzi (zzi h 1 _ rfl) 0 _ rfl))) 2 _ rfl)
theorem insW_g {w:World} {g a b n c d:Nat} (hgb:g≠b) (hga:g≠a) (h:w.heap[g]? = some (.cells (rootCells c d n) 116 (0,0))):(insW w g a b n).heap[g]? = some (.cells (rootCells c b (n+1)) 116 (0,0)):=
 zzi (far_eq hgb (zzi (far_eq hga (far_eq hgb (far_eq hgb h))) 1 _ rfl)) 4 _ rfl
theorem insW_g0 {w:World} {g b n c d:Nat} (hgb:g≠b) (h:w.heap[g]? = some (.cells (rootCells c d n) 116 (0,0))):(insW w g g b n).heap[g]? = some (.cells (rootCells b b (n+1)) 116 (0,0)):=
 zzi (far_eq hgb (zzi (zzi (far_eq hgb (far_eq hgb h)) 0 _ rfl) 1 _ rfl)) 4 _ rfl
theorem insW_a {w:World} {g a b n c d v:Nat} (hag:a≠g) (hab:a≠b) (h:w.heap[a]? = some (.cells (nodeCells c d g v) 105 (0,0))):(insW w g a b n).heap[a]? = some (.cells (nodeCells b d g v) 105 (0,0)):=
 far_eq hag (far_eq hab (far_eq hag (zzi (far_eq hab (far_eq hab h)) 0 _ rfl)))
theorem insW_size {w:World} {g a b n:Nat} : (insW w g a b n).heap.size=w.heap.size:=by simp [insW]
theorem insW_list {w:World} {g:Nat} {r:Nat→Nat} {vs:List Nat} {v b:Nat} (h:IsList w g r vs) (hb:w.heap[b]? = some (.cells (freshNode v) 105 (0,0))) (hbn:∀ i,i≤vs.length→r i≠b):IsList (insW w g (r vs.length) b vs.length) g (rAdd r vs.length b g) (vs ++ [v]):=by
 have hgb:g≠b:=by have:=hbn 0 (Nat.zero_le _);rwa [h.r0] at this
 have hlen:(vs ++ [v]).length=vs.length+1:=by simp
 refine ⟨?_,?_,?_,?_,?_⟩
 ·unfold rAdd;rw [if_pos (Nat.zero_le _)];exact h.r0
 ·unfold rAdd;rw [hlen,if_neg (by omega),if_neg (by omega)]
 ·intro i j hi hj he
  rw [hlen] at hi hj;unfold rAdd at he;by_cases h1:i≤vs.length
  ·by_cases h2:j≤vs.length
   ·rw [if_pos h1,if_pos h2] at he;exact h.inj i j h1 h2 he
   ·rw [if_pos h1,if_neg h2,if_pos (by omega)] at he;exact absurd he (hbn i h1)
  ·by_cases h2:j≤vs.length
   ·rw [if_neg h1,if_pos (by omega),if_pos h2] at he;exact absurd he.symm (hbn j h2)
   ·omega
 ·rw [hlen]
  unfold rAdd;rw [if_neg (show ¬ vs.length+1≤vs.length by omega),if_pos rfl];by_cases hz:vs.length=0
  ·rw [if_neg (by omega),if_pos (by omega)]
   have:r vs.length=g:=by rw [hz];exact h.r0
   rw [this];exact insW_g0 hgb h.root
  ·rw [if_pos (by omega)]
   have hga:g≠r vs.length:=fun e=>hz (h.inj vs.length 0 (Nat.le_refl _) (Nat.zero_le _) (by rw [h.r0];exact e.symm));exact insW_g hgb hga h.root
 ·intro j hj
  rw [hlen] at hj;by_cases hl:j=vs.length
  ·subst hl
   have e1:(vs ++ [v])[vs.length]'(by simp)=v:=by simp
   rw [e1];unfold rAdd;rw [if_neg (show ¬ vs.length+1≤vs.length by omega),if_pos rfl,if_neg (show ¬ vs.length+2≤vs.length by omega),if_neg (show ¬ vs.length+2=vs.length+1 by omega),if_pos (Nat.le_refl _)];exact insW_b hgb (hbn _ (Nat.le_refl _)) hb
  ·have hj' : j < vs.length:=by omega
   have e1:(vs ++ [v])[j]'(by simp;omega)=vs[j]:=by simp [List.getElem_append,hj']
   rw [e1];have hne0:r (j+1)≠g:=fun e=>by have:=h.inj (j+1) 0 (by omega) (Nat.zero_le _) (by rw [h.r0];exact e);omega
   unfold rAdd;rw [if_pos (show j+1≤vs.length by omega),if_pos (show j≤vs.length by omega)];by_cases hlast:j+1=vs.length
   ·rw [if_neg (show ¬ j+2≤vs.length by omega),if_pos (show j+2=vs.length+1 by omega)]
    have h3:=h.node j hj';rw [hlast] at h3 hne0 ⊢;exact insW_a hne0 (hbn _ (Nat.le_refl _)) h3
   ·rw [if_pos (show j+2≤vs.length by omega)]
    refine (insW_far hne0 (fun e=>?_) (hbn _ (by omega))).trans (h.node j hj');have:=h.inj (j+1) vs.length (by omega) (Nat.le_refl _) e;omega
theorem insW_below {w:World} {B g a b n:Nat} (h1:B≤g) (h2:B≤a) (h3:B≤b):Below B w (insW w g a b n):=
 ((((((Below.refl _ _).setCell (p:=⟨b,1,none⟩) h3 _).setCell (p:=⟨b,0,none⟩) h3 _).setCell (p:=⟨a,0,none⟩) h2 _).setCell (p:=⟨g,1,none⟩) h1 _).setCell (p:=⟨b,2,none⟩) h3 _).setCell (p:=⟨g,4,none⟩) h1 _
theorem list_insert.calls (g:Nat) (r:Nat→Nat) (vs:List Nat) (v b:Nat) (w:World) (h:IsList w g r vs) (hn:vs.length < 1000000000000) (hb:w.heap[b]? = some (.cells (freshNode v) 105 (0,0))) (hbn:∀ i,i≤vs.length→r i≠b) :
  Calls Try.prog 111 #[.pointer (some ⟨g,0,none⟩),.pointer (some ⟨b,0,none⟩),.pointer (some ⟨r vs.length,0,none⟩)] w fun e w'=>e = .returned (.pointer (some ⟨b,0,none⟩))∧w' = insW w g (r vs.length) b vs.length:=by
 have hgb:g≠b:=by have:=hbn 0 (Nat.zero_le _);rwa [h.r0] at this
 have ha0:w.cell? ⟨r vs.length,0,none⟩=some (.pointer (some ⟨g,0,none⟩))∧w.frozen? ⟨r vs.length,0,none⟩=false:=by
  by_cases hz:vs.length=0
  ·have e0:r vs.length=g:=by rw [hz];exact h.r0
   have e1:r 1=g:=by have:=h.rn;rwa [hz] at this
   have h1:=(zzk h.root 0).trans rfl;rw [e1] at h1;rw [e0];exact ⟨h1,zzl h.root 0⟩
  ·obtain ⟨m,hm⟩:∃ m,vs.length=m+1:=⟨vs.length - 1,by omega⟩
   have h2:=h.node m (by omega);have h1:=(zzk h2 0).trans rfl;have e1:r (m+2)=g:=by have:=h.rn;rwa [hm] at this
   rw [e1] at h1;rw [hm];exact ⟨h1,zzl h2 0⟩
 exact insert_core w g (r vs.length) b vs.length _ ((zzk hb 0).trans rfl) ((zzk hb 1).trans rfl) ((zzk hb 2).trans rfl) ha0.1 ((zzk h.root 1).trans rfl) ((zzk h.root 4).trans rfl) (zzl hb 0) (zzl hb 1) (zzl hb 2) ha0.2 (zzl h.root 1) (zzl h.root 4) hgb (hbn _ (Nat.le_refl _)) (by unfold wrap64;omega)
theorem IsList.fresh {w:World} {g:Nat} {r:Nat→Nat} {vs:List Nat} (h:IsList w g r vs) {b:Nat} (hb:w.heap.size≤b):∀ i,i≤vs.length→r i≠b:=fun i hi e=>by have:=h.lt i hi;omega
def ListKept (w w' : World) (r:Nat→Nat) (n:Nat):Prop:=Kept w w' (fun k=>∃ i,i≤n∧k=r i)
theorem kept_ins {w w1:World} {g b:Nat} {r:Nat→Nat} {n:Nat} (hr0:r 0=g) (hb:Below w.heap.size w w1) (hbs:w.heap.size≤b):ListKept w (insW w1 g (r n) b n) r n:=by
 refine ⟨by rw [insW_size];exact hb.size,fun k hk hS=>?_⟩;refine (insW_far (fun e=>hS ⟨0,Nat.zero_le _,by rw [hr0];exact e⟩) (fun e=>hS ⟨n,Nat.le_refl _,e⟩) (by omega)).trans (hb.block k hk)
set_option maxHeartbeats 8000000 in
set_option maxRecDepth 100000 in
theorem list_insertValue.calls (g:Nat) (r:Nat→Nat) (vs:List Nat) (v:Nat) (w:World) (h:IsList w g r vs) (hn:vs.length < 1000000000000) :
  Calls Try.prog 104 #[.pointer (some ⟨g,0,none⟩),.iface 3 (.int .i64 (v:Int)),.pointer (some ⟨r vs.length,0,none⟩)] w fun e w'=>∃ b,e = .returned (.pointer (some ⟨b,0,none⟩))∧w.heap.size≤b∧IsList w' g (rAdd r vs.length b g) (vs ++ [v])∧ListKept w w' r vs.length∧∀ B,B≤w.heap.size→(∀ i,i≤vs.length→B≤r i)→Below B w w':=by
 have HL:=zzm h;have HN:=zzm hn;have HB:=zzm (Below.refl w.heap.size w);have HR0:=zzm h.r0;clear hn h;generalize ha:r vs.length=a;have HA:=zzm ha;clear ha;go_enter Try.func104,Try.ntmps104;go_wp2_with (first|((with_reducible refine gate_dst (N:=10) rfl ?_);refine box_event ?hg (N:=10) ?hd (cs:=freshNode v) (t:=105) ?hr ?_;(case hd=>rfl);(case hg=>rfl);(case hr=>first|(go_simp;done)|(go_simp;rfl));intro b hg w1 hbox hb;have BK:=zzm hbox;have HB0:=zzm (zzp HB.out hb);have HG:=zzm (show w.heap.size≤b by rw [hg];exact HB.out.size);have HL1:=zzm (HL.out.below hb);clear hb hbox hg)|((with_reducible refine gate_callee (f:=111) rfl ?_);refine goesL_ (some 12) rfl rfl Try.func111 (by kernel_rfl) rfl #[.pointer (some ⟨g,0,none⟩),.pointer (some ⟨b,0,none⟩),.pointer (some ⟨a,0,none⟩)] rfl (by (try simp only [map_toArray,map_cons,map_nil]);first|done|rfl) ?_;rw [← HA.out];(with_reducible refine (list_insert.calls g r vs v b _ HL1.out HN.out BK.out (HL.out.fresh HG.out)).mono ?_);rintro e w9 ⟨rfl,hx⟩;refine ⟨_,rfl,?_⟩;have HX:=zzm hx;clear hx));go_ret;have hL:=HL.out;refine ⟨b,rfl,HG.out,?_,?_,?_⟩
 ·rw [HX.out];exact insW_list HL1.out BK.out (hL.fresh HG.out)
 ·rw [HX.out];exact kept_ins HR0.out HB0.out HG.out
 ·intro B hB hi
  rw [HX.out];exact (HB0.out.mono hB).trans (insW_below (by rw [← HR0.out];exact hi 0 (Nat.zero_le _)) (hi _ (Nat.le_refl _)) (Nat.le_trans hB HG.out))
set_option maxHeartbeats 8000000 in
set_option maxRecDepth 100000 in
theorem list_PushBack.calls (g:Nat) (r:Nat→Nat) (vs:List Nat) (v:Nat) (w:World) (h:IsList w g r vs) (hn:vs.length < 1000000000000) :
  Calls Try.prog 89 #[.pointer (some ⟨g,0,none⟩),.iface 3 (.int .i64 (v:Int))] w fun e w'=>∃ b,e = .returned (.pointer (some ⟨b,0,none⟩))∧w.heap.size≤b∧IsList w' g (rAdd r vs.length b g) (vs ++ [v])∧ListKept w w' r vs.length∧∀ B,B≤w.heap.size→(∀ i,i≤vs.length→B≤r i)→Below B w w':=by
 have HL:=zzm h;have HN:=zzm hn;have hc1:w.cell? ⟨g,1,none⟩=some (.pointer (some ⟨r vs.length,0,none⟩)):=(zzk h.root 1).trans rfl;clear hn h;generalize ha:r vs.length=a at hc1;have HA:=zzm ha;clear ha;go_enter Try.func89,Try.ntmps89;go_wp2_with (first|((with_reducible refine gate_callee (f:=103) rfl ?_);refine goesL_ (some 6) rfl rfl Try.func103 (by kernel_rfl) rfl #[.pointer (some ⟨g,0,none⟩)] rfl (by (try simp only [map_toArray,map_cons,map_nil]);first|done|rfl) ?_;(with_reducible refine (list_lazyInit.calls g r vs _ HL.out).mono ?_);rintro e w9 ⟨rfl,hd⟩;refine ⟨_,rfl,?_⟩;obtain ⟨m,rfl⟩:=hd.out;have HL1:=zzm (show IsList (w.drewN m) g r vs from HL.out.below (zzb (Below.refl _ _) m));clear hd)|((with_reducible refine gate_callee (f:=104) rfl ?_);refine goesL_ (some 14) rfl rfl Try.func104 (by kernel_rfl) rfl #[.pointer (some ⟨g,0,none⟩),.iface 3 (.int .i64 (v:Int)),.pointer (some ⟨a,0,none⟩)] rfl (by (try simp only [map_toArray,map_cons,map_nil]);first|done|rfl) ?_;rw [← HA.out];(with_reducible refine (list_insertValue.calls g r vs v _ HL1.out HN.out).mono ?_);rintro e w9 ⟨b,rfl,hx⟩;refine ⟨_,rfl,?_⟩;have HX:=zzm hx;clear hx));go_ret;obtain ⟨h1,h2,h3,h4⟩:=HX.out;exact ⟨b,rfl,h1,h2,h3,fun B h5 h6=>(zzb (Below.refl _ _) m).trans (h4 B h5 h6)⟩
def remW (w:World) (g a b c n:Nat):World:=(((((w.setCell ⟨a,0,none⟩ (.pointer (some ⟨c,0,none⟩))).setCell ⟨c,1,none⟩ (.pointer (some ⟨a,0,none⟩))).setCell ⟨b,0,none⟩ (.pointer none)).setCell ⟨b,1,none⟩ (.pointer none)).setCell ⟨b,2,none⟩ (.pointer none)).setCell ⟨g,4,none⟩ (.int .i64 ((n:Int) - 1))
set_option maxHeartbeats 8000000 in
set_option maxRecDepth 100000 in
theorem remove_core (w:World) (g a b c n:Nat) (x2 x4 x5:Value) (hb0:w.cell? ⟨b,0,none⟩=some (.pointer (some ⟨c,0,none⟩))) (hb1:w.cell? ⟨b,1,none⟩=some (.pointer (some ⟨a,0,none⟩))) (hb2:w.cell? ⟨b,2,none⟩=some x2) (ha0:w.cell? ⟨a,0,none⟩=some x4) (hc1:w.cell? ⟨c,1,none⟩=some x5) (hg4:w.cell? ⟨g,4,none⟩=some (.int .i64 (n:Int)))
  (fb0:w.frozen? ⟨b,0,none⟩=false) (fb1:w.frozen? ⟨b,1,none⟩=false) (fb2:w.frozen? ⟨b,2,none⟩=false) (fa0:w.frozen? ⟨a,0,none⟩=false) (fc1:w.frozen? ⟨c,1,none⟩=false) (fg4:w.frozen? ⟨g,4,none⟩=false)
  (hgb:g≠b) (hab:a≠b) (hcb:c≠b) (hag:a=g∨a≠g) (hcg:c=g∨c≠g) (hac:a=c∨a≠c) (h3:a=c→a=g) (hw:wrap64 ((n:Int) - 1)=(n:Int) - 1) :
  Calls Try.prog 106 #[.pointer (some ⟨g,0,none⟩),.pointer (some ⟨b,0,none⟩)] w fun e w'=>e = .returned (.tuple #[])∧w' = (remW w g a b c n).drew.drew:=by
 have hbg:b≠g:=fun e=>hgb e.symm;have hba:b≠a:=fun e=>hab e.symm;have hbc:b≠c:=fun e=>hcb e.symm;rcases hac with rfl|hac
 ·rcases hag with rfl|hag
  ·clear hcg
   go_enter Try.func106,Try.ntmps106;go_wp2;go_region;go_wp2;go_region;go_wp2;go_end0;exact ⟨rfl,rfl⟩
  ·exact absurd (h3 rfl) hag
 ·have hca:c≠a:=fun e=>hac e.symm
  rcases hag with rfl|hag
  ·clear hcg
   go_enter Try.func106,Try.ntmps106;go_wp2;go_region;go_wp2;go_region;go_wp2;go_end0;exact ⟨rfl,rfl⟩
  ·have hga:g≠a:=fun e=>hag e.symm
   rcases hcg with rfl|hcg
   ·go_enter Try.func106,Try.ntmps106
    go_wp2;go_region;go_wp2;go_region;go_wp2;go_end0;exact ⟨rfl,rfl⟩
   ·have hgc:g≠c:=fun e=>hcg e.symm
    go_enter Try.func106,Try.ntmps106;go_wp2;go_region;go_wp2;go_region;go_wp2;go_end0;exact ⟨rfl,rfl⟩
section
variable {w:World} {g a b c n k x y d v:Nat}
theorem remW_far (h1:k≠g) (h2:k≠a) (h3:k≠b) (h4:k≠c):(remW w g a b c n).heap[k]? = w.heap[k]?:=
 far_eq h1 (far_eq h3 (far_eq h3 (far_eq h3 (far_eq h4 (far_eq h2 rfl)))))
theorem remW_size:(remW w g a b c n).heap.size=w.heap.size:=by simp [remW]
theorem cast_pred:(.int .i64 (((n+1:Nat):Int) - 1):Value) = .int .i64 (n:Int):=by
 congr 1;omega
theorem remW_g (hgb:g≠b) (hga:g≠a) (hgc:g≠c) (h:w.heap[g]? = some (.cells (rootCells x y (n+1)) 116 (0,0))):(remW w g a b c (n+1)).heap[g]? = some (.cells (rootCells x y n) 116 (0,0)):=
 zzi (far_eq hgb (far_eq hgb (far_eq hgb (far_eq hgc (far_eq hga h))))) 4 _ (by rw [cast_pred];rfl)
theorem remW_ga (hgb:g≠b) (hgc:g≠c) (h:w.heap[g]? = some (.cells (rootCells x y (n+1)) 116 (0,0))):(remW w g g b c (n+1)).heap[g]? = some (.cells (rootCells c y n) 116 (0,0)):=
 zzi (far_eq hgb (far_eq hgb (far_eq hgb (far_eq hgc (zzi h 0 _ rfl))))) 4 _ (by rw [cast_pred];rfl)
theorem remW_gc (hgb:g≠b) (hga:g≠a) (h:w.heap[g]? = some (.cells (rootCells x y (n+1)) 116 (0,0))):(remW w g a b g (n+1)).heap[g]? = some (.cells (rootCells x a n) 116 (0,0)):=
 zzi (far_eq hgb (far_eq hgb (far_eq hgb (zzi (far_eq hga h) 1 _ rfl)))) 4 _ (by rw [cast_pred];rfl)
theorem remW_gg (hgb:g≠b) (h:w.heap[g]? = some (.cells (rootCells x y (n+1)) 116 (0,0))):(remW w g g b g (n+1)).heap[g]? = some (.cells (rootCells g g n) 116 (0,0)):=
 zzi (far_eq hgb (far_eq hgb (far_eq hgb (zzi (zzi h 0 _ rfl) 1 _ rfl)))) 4 _ (by rw [cast_pred];rfl)
theorem remW_a (hag:a≠g) (hab:a≠b) (hac:a≠c) (h:w.heap[a]? = some (.cells (nodeCells x y d v) 105 (0,0))):(remW w g a b c n).heap[a]? = some (.cells (nodeCells c y d v) 105 (0,0)):=
 far_eq hag (far_eq hab (far_eq hab (far_eq hab (far_eq hac (zzi h 0 _ rfl)))))
theorem remW_c (hcg:c≠g) (hcb:c≠b) (hca:c≠a) (h:w.heap[c]? = some (.cells (nodeCells x y d v) 105 (0,0))):(remW w g a b c n).heap[c]? = some (.cells (nodeCells x a d v) 105 (0,0)):=
 far_eq hcg (far_eq hcb (far_eq hcb (far_eq hcb (zzi (far_eq hca h) 1 _ rfl))))
theorem remW_v (hbg:b≠g) (hba:b≠a) (hbc:b≠c) (h:w.heap[b]? = some (.cells (nodeCells x y d v) 105 (0,0))):(remW w g a b c n).cell? ⟨b,3,none⟩=some (.iface 3 (.int .i64 (v:Int))):=by
 have h1:(remW w g a b c n).heap[b]? = some (.cells #[.pointer none,.pointer none,.pointer none,.iface 3 (.int .i64 (v:Int))] 105 (0,0)):=far_eq hbg (zzi (zzi (zzi (far_eq hbc (far_eq hba h)) 0 _ rfl) 1 _ rfl) 2 _ rfl);exact (zzk h1 3).trans rfl
theorem remW_below {B:Nat} (h1:B≤g) (h2:B≤a) (h3:B≤b) (h4:B≤c):Below B w (remW w g a b c n):=
 ((((((Below.refl _ _).setCell (p:=⟨a,0,none⟩) h2 _).setCell (p:=⟨c,1,none⟩) h4 _).setCell (p:=⟨b,0,none⟩) h3 _).setCell (p:=⟨b,1,none⟩) h3 _).setCell (p:=⟨b,2,none⟩) h3 _).setCell (p:=⟨g,4,none⟩) h1 _
end
def rRem (r:Nat→Nat) (p:Nat):Nat→Nat:=fun i=>if i≤p then r i else r (i+1)
theorem IsList.ne_root {w:World} {g:Nat} {r:Nat→Nat} {vs:List Nat} (h:IsList w g r vs) {i:Nat} (h0 : 0 < i) (hi:i≤vs.length):r i≠g:=fun e=>by
 have:=h.inj i 0 hi (Nat.zero_le _) (by rw [h.r0];exact e)
 omega
theorem IsList.ne_of {w:World} {g:Nat} {r:Nat→Nat} {vs:List Nat} (h:IsList w g r vs) {i j:Nat} (hi:i≤vs.length) (hj:j≤vs.length+1) (hne:i≠j) (h0:i=0→j≠vs.length+1):r i≠r j:=fun e=>by
 by_cases hl:j=vs.length+1
 ·rw [hl,h.rn] at e
  by_cases hz:i=0
  ·exact h0 hz hl
  ·exact h.ne_root (by omega) hi e
 ·exact hne (h.inj i j hi (by omega) e)
theorem remW_list {w:World} {g:Nat} {r:Nat→Nat} {vs:List Nat} (h:IsList w g r vs) (p:Nat) (hp:p < vs.length):IsList (remW w g (r p) (r (p+1)) (r (p+2)) vs.length) g (rRem r p) (vs.eraseIdx p):=by
 obtain ⟨m,hm⟩:∃ m,vs.length=m+1:=⟨vs.length - 1,by omega⟩;have hlen:(vs.eraseIdx p).length=m:=by rw [List.length_eraseIdx_of_lt hp];omega
 have hgb:g≠r (p+1):=(h.ne_root (by omega) (by omega)).symm;refine ⟨?_,?_,?_,?_,?_⟩
 ·unfold rRem;rw [if_pos (Nat.zero_le _)];exact h.r0
 ·unfold rRem;rw [hlen,if_neg (by omega)];have:=h.rn;rwa [hm] at this
 ·intro i j hi hj he
  rw [hlen] at hi hj;unfold rRem at he;by_cases h1:i≤p
  ·by_cases h2:j≤p
   ·rw [if_pos h1,if_pos h2] at he;exact h.inj i j (by omega) (by omega) he
   ·rw [if_pos h1,if_neg h2] at he;have:=h.inj i (j+1) (by omega) (by omega) he;omega
  ·by_cases h2:j≤p
   ·rw [if_neg h1,if_pos h2] at he;have:=h.inj (i+1) j (by omega) (by omega) he;omega
   ·rw [if_neg h1,if_neg h2] at he;have:=h.inj (i+1) (j+1) (by omega) (by omega) he;omega
 ·rw [hlen,hm]
  have hroot:=h.root;rw [hm] at hroot;unfold rRem;by_cases h1:p=0
  ·subst h1
   rw [if_neg (show ¬ 1≤0 by omega)];by_cases h2:m=0
   ·subst h2
    rw [if_pos (Nat.le_refl _)];have e1:r (0+2)=g:=by have:=h.rn;rwa [hm] at this
    rw [e1,h.r0];exact remW_gg hgb hroot
   ·rw [if_neg (show ¬ m≤0 by omega),h.r0]
    exact remW_ga hgb (h.ne_root (show 0 < 0+2 by omega) (by omega)).symm hroot
  ·rw [if_pos (show 1≤p by omega)]
   by_cases h2:p=m
   ·subst h2
    rw [if_pos (Nat.le_refl _)];have e1:r (p+2)=g:=by have:=h.rn;rwa [hm] at this
    rw [e1];exact remW_gc hgb (h.ne_root (by omega) (by omega)).symm hroot
   ·rw [if_neg (show ¬ m≤p by omega)]
    exact remW_g hgb (h.ne_root (by omega) (by omega)).symm (h.ne_root (by omega) (by omega)).symm hroot
 ·intro j hj
  rw [hlen] at hj;rw [List.getElem_eraseIdx];unfold rRem;by_cases h1:j+1≤p
  ·rw [dif_pos (show j < p by omega),if_pos h1,if_pos (show j≤p by omega)]
   have hj':=h.node j (by omega);have n1:r (j+1)≠g:=h.ne_root (by omega) (by omega);have n2:r (j+1)≠r (p+1):=h.ne_of (by omega) (by omega) (by omega) (by omega);have n3:r (j+1)≠r (p+2):=h.ne_of (by omega) (by omega) (by omega) (by omega);by_cases h2:j+1=p
   ·rw [if_neg (show ¬ j+2≤p by omega)]
    subst h2;exact remW_a n1 n2 n3 hj'
   ·rw [if_pos (show j+2≤p by omega)]
    exact (remW_far n1 (h.ne_of (by omega) (by omega) (by omega) (by omega)) n2 n3).trans hj'
  ·rw [dif_neg (show ¬ j < p by omega),if_neg h1,if_neg (show ¬ j+2≤p by omega)]
   have hj':=h.node (j+1) (by omega);have n1:r (j+2)≠g:=h.ne_root (by omega) (by omega);have n2:r (j+2)≠r (p+1):=h.ne_of (by omega) (by omega) (by omega) (by omega);have n3:r (j+2)≠r p:=h.ne_of (by omega) (by omega) (by omega) (by omega);by_cases h2:j=p
   ·rw [if_pos (show j≤p by omega)]
    subst h2;exact remW_c n1 n2 n3 hj'
   ·rw [if_neg (show ¬ j≤p by omega)]
    exact (remW_far n1 n3 n2 (h.ne_of (by omega) (by omega) (by omega) (by omega))).trans hj'
theorem IsList.drew {w:World} {g:Nat} {r:Nat→Nat} {vs:List Nat} (h:IsList w g r vs):IsList w.drew g r vs:=⟨h.r0,h.rn,h.inj,h.root,h.node⟩
theorem heap_drew2 (W:World):W.drew.drew.heap=W.heap:=rfl
theorem cell_drew2 (W:World) (a:Addr):W.drew.drew.cell? a=W.cell? a:=rfl
set_option maxHeartbeats 8000000 in
set_option maxRecDepth 100000 in
theorem list_Remove.calls (g:Nat) (r:Nat→Nat) (vs:List Nat) (p:Nat) (w:World) (h:IsList w g r vs) (hn:vs.length < 1000000000000) (hp:p < vs.length) :
  Calls Try.prog 93 #[.pointer (some ⟨g,0,none⟩),.pointer (some ⟨r (p+1),0,none⟩)] w fun e w'=>e = .returned (.iface 3 (.int .i64 (vs[p]:Int)))∧IsList w' g (rRem r p) (vs.eraseIdx p)∧ListKept w w' r vs.length∧∀ B,(∀ i,i≤vs.length→B≤r i)→Below B w w':=by
 have hb:=h.node p hp;have hb2:w.cell? ⟨r (p+1),2,none⟩=some (.pointer (some ⟨g,0,none⟩)):=(zzk hb 2).trans rfl;have hgb:g≠r (p+1):=(h.ne_root (by omega) (by omega)).symm;have hba:r (p+1)≠r p:=h.ne_of (by omega) (by omega) (by omega) (by omega);have hbc:r (p+1)≠r (p+2):=h.ne_of (by omega) (by omega) (by omega) (by omega);have hlast:p+2=vs.length+1→r (p+2)=g:=fun e=>by rw [e];exact h.rn
 have hfirst:p=0→r p=g:=fun e=>by rw [e];exact h.r0
 have ha:(∃ x,w.cell? ⟨r p,0,none⟩=some x)∧w.frozen? ⟨r p,0,none⟩=false:=by
  by_cases hz:p=0
  ·rw [hfirst hz];exact ⟨⟨_,(zzk h.root 0).trans rfl⟩,zzl h.root 0⟩
  ·have h2:=h.node (p - 1) (by omega)
   rw [show p - 1+1=p by omega] at h2;exact ⟨⟨_,(zzk h2 0).trans rfl⟩,zzl h2 0⟩
 have hc:(∃ x,w.cell? ⟨r (p+2),1,none⟩=some x)∧w.frozen? ⟨r (p+2),1,none⟩=false:=by
  by_cases hz:p+2=vs.length+1
  ·rw [hlast hz];exact ⟨⟨_,(zzk h.root 1).trans rfl⟩,zzl h.root 1⟩
  ·have h2:=h.node (p+1) (by omega)
   exact ⟨⟨_,(zzk h2 1).trans rfl⟩,zzl h2 1⟩
 obtain ⟨⟨x4,ha0⟩,fa0⟩:=ha;obtain ⟨⟨x5,hc1⟩,fc1⟩:=hc;have hac:r p=r (p+2)→r p=g:=fun e=>by
  by_cases hz:p=0
  ·exact hfirst hz
  ·exact absurd e (h.ne_of (by omega) (by omega) (by omega) (by omega))
 have core:=remove_core w g (r p) (r (p+1)) (r (p+2)) vs.length _ _ _ ((zzk hb 0).trans rfl) ((zzk hb 1).trans rfl) hb2 ha0 hc1 ((zzk h.root 4).trans rfl) (zzl hb 0) (zzl hb 1) (zzl hb 2) fa0 fc1 (zzl h.root 4) hgb hba.symm hbc.symm (Decidable.em _) (Decidable.em _) (Decidable.em _) hac (by unfold wrap64;omega);have hL:IsList (remW w g (r p) (r (p+1)) (r (p+2)) vs.length).drew.drew g (rRem r p) (vs.eraseIdx p):=(remW_list h p hp).drew.drew;have hK:ListKept w (remW w g (r p) (r (p+1)) (r (p+2)) vs.length).drew.drew r vs.length:=by
  refine ⟨by rw [World.size_drew,World.size_drew,remW_size];exact Nat.le_refl _,fun k hk hS=>?_⟩;rw [heap_drew2];refine remW_far (fun e=>hS ⟨0,Nat.zero_le _,by rw [h.r0];exact e⟩) (fun e=>hS ⟨p,by omega,e⟩) (fun e=>hS ⟨p+1,by omega,e⟩) (fun e=>?_);by_cases hz:p+2=vs.length+1
  ·exact hS ⟨0,Nat.zero_le _,by rw [h.r0,e];exact hlast hz⟩
  ·exact hS ⟨p+2,by omega,e⟩
 have hB:∀ B,(∀ i,i≤vs.length→B≤r i)→Below B w (remW w g (r p) (r (p+1)) (r (p+2)) vs.length).drew.drew:=fun B hi=>by
  have h0:B≤g:=by rw [← h.r0];exact hi 0 (Nat.zero_le _)
  refine (remW_below h0 (hi _ (by omega)) (hi _ (by omega)) ?_).drew.drew;by_cases hz:p+2=vs.length+1
  ·rw [hlast hz];exact h0
  ·exact hi _ (by omega)
 have hv:(remW w g (r p) (r (p+1)) (r (p+2)) vs.length).drew.drew.cell? ⟨r (p+1),3,none⟩=some (.iface 3 (.int .i64 (vs[p]:Int))):=by rw [cell_drew2];exact remW_v hgb.symm hba hbc hb
 have hq:=eql_ptr_same (w:=w) (g:=g);have CO:=zzm core;have HR:=zzm (And.intro hL (And.intro hK hB));clear core hL hK hB ha0 fa0 hc1 fc1 hac hlast hfirst hgb hba hbc hb h hn;generalize (remW w g (r p) (r (p+1)) (r (p+2)) vs.length).drew.drew=W at CO HR hv;generalize r (p+1)=b at CO HR hv hb2 ⊢;generalize vs[p]=v at hv ⊢;go_enter Try.func93,Try.ntmps93;go_wp2_with ((with_reducible refine gate_callee (f:=106) rfl ?_);refine goesL_ (some 13) rfl rfl Try.func106 (by kernel_rfl) rfl #[.pointer (some ⟨g,0,none⟩),.pointer (some ⟨b,0,none⟩)] rfl (by (try simp only [map_toArray,map_cons,map_nil]);first|done|rfl) ?_;(with_reducible refine CO.out.mono ?_);rintro e w9 ⟨rfl,hx⟩;refine ⟨_,rfl,?_⟩;rw [← hx] at hv HR;clear hx);go_ret;exact ⟨rfl,HR.out.1,HR.out.2.1,HR.out.2.2⟩
def ints (l:List Int):Array Value:=(l.map fun x=>Value.int .i64 x).toArray
theorem ints_at {l:List Int} {i:Nat} (h:i < l.length):(ints l)[i]? = some (.int .i64 (l.getD i 0)):=by
 simp [ints,List.getD_eq_getElem?_getD,h]
theorem ints_set (l:List Int) (i:Nat) (x:Int):(ints l).setIfInBounds i (.int .i64 x)=ints (l.set i x):=by
 simp [ints,List.map_set]
structure FSt where
 ws:List Int
 bs:List Int
 op:List Nat
def tellsP (b:S27):Bool:=decide ((rd_T34 b.f5 0).f5 = [1])
def fin1 (l:List S27) (i:Nat) (s:FSt) (k:Nat):FSt:=
 if (rd_T27 l (k:Int)).f2=(rd_T27 l (i:Int)).f2 then ⟨s.ws.set k (if tellsP (rd_T27 l (i:Int))=true then 1 else 2),s.bs.set k (i:Int),s.op⟩ else ⟨s.ws,s.bs,s.op ++ [k]⟩
def fstep (l:List S27) (s:FSt) (i:Nat):FSt:=
 if (rd_T27 l (i:Int)).f2=255 then ⟨s.ws.set i 1,s.bs.set i (-1),s.op⟩
 else if (rd_T27 l (i:Int)).f1=false then ⟨s.ws,s.bs.set i (-1),s.op ++ [i]⟩
 else s.op.foldl (fin1 l i) ⟨s.ws.set i 3,s.bs.set i (-1),[]⟩
def fates0 (n:Nat):FSt:=⟨List.replicate n 0,List.replicate n 0,[]⟩
def fatesTo (l:List S27) (k:Nat):FSt:=(List.range k).foldl (fstep l) (fates0 l.length)
theorem fatesTo_succ (l:List S27) (k:Nat):fatesTo l (k+1)=fstep l (fatesTo l k) k:=by
 unfold fatesTo;rw [List.range_succ,List.foldl_append];rfl
structure FOk (n:Nat) (m:Nat) (s:FSt):Prop where
 lw:s.ws.length=n
 lb:s.bs.length=n
 lo:s.op.length≤m
 op:∀ x∈s.op,x < n
theorem FOk.fin1 {n m:Nat} {s:FSt} (h:FOk n m s) (l:List S27) (i k:Nat) (hk:k < n):FOk n (m+1) (fin1 l i s k):=by
 unfold Yticpnjhkdfdkkaa.T.fin1;split
 ·exact ⟨by simpa using h.lw,by simpa using h.lb,by have:=h.lo;simp only;omega,h.op⟩
 ·refine ⟨h.lw,h.lb,by have:=h.lo;simp;omega,fun x hx=>?_⟩
  rcases List.mem_append.1 hx with hx|hx
  ·exact h.op x hx
  ·rw [List.mem_singleton.1 hx];exact hk
theorem FOk.mono {n m m' : Nat} {s:FSt} (h:FOk n m s) (hm:m≤m'):FOk n m' s:=⟨h.lw,h.lb,Nat.le_trans h.lo hm,h.op⟩
theorem FOk.fold {n:Nat} (l:List S27) (i:Nat):∀ (xs:List Nat) (m:Nat) (s:FSt),FOk n m s→(∀ x∈xs,x < n)→FOk n (m+xs.length) (xs.foldl (Yticpnjhkdfdkkaa.T.fin1 l i) s)
 | [],_,_,h,_=>h
 | x::xs,m,s,h,hx=>by
  have:=FOk.fold l i xs (m+1) _ (h.fin1 l i x (hx x (by simp))) (fun y hy=>hx y (by simp [hy]))
  rw [List.foldl_cons,List.length_cons,show m+(xs.length+1)=m+1+xs.length by omega]
  exact this
theorem FOk.step {n m:Nat} {s:FSt} (h:FOk n m s) (l:List S27) (i:Nat) (hi:i < n):FOk n (m+1) (fstep l s i):=by
 unfold fstep;split
 ·exact ⟨by simpa using h.lw,by simpa using h.lb,by have:=h.lo;simp only;omega,h.op⟩
 ·split
  ·refine ⟨h.lw,by simpa using h.lb,by have:=h.lo;simp;omega,fun x hx=>?_⟩
   rcases List.mem_append.1 hx with hx|hx
   ·exact h.op x hx
   ·rw [List.mem_singleton.1 hx];exact hi
  ·have:=FOk.fold l i s.op 0 ⟨s.ws.set i 3,s.bs.set i (-1),[]⟩ ⟨by simpa using h.lw,by simpa using h.lb,by simp,by simp⟩ h.op
   exact this.mono (by have:=h.lo;omega)
theorem fates_ok (l:List S27):∀ k,k≤l.length→FOk l.length k (fatesTo l k)
 | 0,_=>⟨by simp [fatesTo,fates0],by simp [fatesTo,fates0],by simp [fatesTo,fates0],by simp [fatesTo,fates0]⟩
 | k+1,h=>by
  rw [fatesTo_succ]
  exact (fates_ok l k (by omega)).step l k (by omega)
structure FS (w W:World) (n g2 g3 gW gB gl:Nat) (r:Nat→Nat) (s:FSt):Prop where
 ok:FOk n n s
 res:W.heap[g2]? = some (.cells #[.slice none 0 0,.slice none 0 0] 72 (0,0))
 f:W.heap[g3]? = some (.cells #[.slice (some ⟨gW,0,none⟩) n n,.slice (some ⟨gB,0,none⟩) n n] 72 (0,0))
 ww:W.heap[gW]? = some (.cells (ints s.ws) 74 (0,0))
 bb:W.heap[gB]? = some (.cells (ints s.bs) 3 (0,0))
 l:IsList W gl r s.op
 n23:g2≠g3
 below:Below w.heap.size w W
 ge2:w.heap.size≤g2
 ge3:w.heap.size≤g3
 geW:w.heap.size≤gW
 geB:w.heap.size≤gB
 geL:∀ i,i≤s.op.length→w.heap.size≤r i
theorem IsList.ne_ty {W:World} {g x t:Nat} {r:Nat→Nat} {vs:List Nat} {cs:Array Value} (h:IsList W g r vs) (hx:W.heap[x]? = some (.cells cs t (0,0))) (h1 : 116≠t) (h2 : 105≠t):∀ i,i≤vs.length→r i≠x
 | 0,_=>by rw [h.r0];exact blk_ne h.root hx h1
 | i+1,hi=>blk_ne (h.node i hi) hx h2
section
variable {w W W' : World} {n g2 g3 gW gB gl:Nat} {r:Nat→Nat} {s:FSt}
theorem FS.mono (h:FS w W n g2 g3 gW gB gl r s) (hb:Below W.heap.size W W'):FS w W' n g2 g3 gW gB gl r s:=
 ⟨h.ok,zzh h.res hb,zzh h.f hb,zzh h.ww hb,zzh h.bb hb,h.l.below hb,h.n23,zzp h.below hb,h.ge2,h.ge3,h.geW,h.geB,h.geL⟩
theorem FS.setW (h:FS w W n g2 g3 gW gB gl r s) (k:Nat) (x:Int):FS w (W.setCell ⟨gW,k,none⟩ (.int .i64 x)) n g2 g3 gW gB gl r ⟨s.ws.set k x,s.bs,s.op⟩:=
  ⟨⟨by simpa using h.ok.lw,h.ok.lb,h.ok.lo,h.ok.op⟩,zzj h.res (blk_ne h.res h.ww (by decide)) _,zzj h.f (blk_ne h.f h.ww (by decide)) _,zzi h.ww k _ (ints_set _ _ _),zzj h.bb (blk_ne h.bb h.ww (by decide)) _,
   h.l.of_heap (fun i hi=>Below.heap_setCell _ _ _ _ (h.l.ne_ty h.ww (by decide) (by decide) i hi)),h.n23,zzd h.below h.geW,h.ge2,h.ge3,h.geW,h.geB,h.geL⟩
theorem FS.setB (h:FS w W n g2 g3 gW gB gl r s) (k:Nat) (x:Int):FS w (W.setCell ⟨gB,k,none⟩ (.int .i64 x)) n g2 g3 gW gB gl r ⟨s.ws,s.bs.set k x,s.op⟩:=
  ⟨⟨h.ok.lw,by simpa using h.ok.lb,h.ok.lo,h.ok.op⟩,zzj h.res (blk_ne h.res h.bb (by decide)) _,zzj h.f (blk_ne h.f h.bb (by decide)) _,zzj h.ww (blk_ne h.ww h.bb (by decide)) _,zzi h.bb k _ (ints_set _ _ _),
   h.l.of_heap (fun i hi=>Below.heap_setCell _ _ _ _ (h.l.ne_ty h.bb (by decide) (by decide) i hi)),h.n23,zzd h.below h.geB,h.ge2,h.ge3,h.geW,h.geB,h.geL⟩
theorem kept_at {r:Nat→Nat} {m x t:Nat} {cs:Array Value} {gl:Nat} {vs:List Nat} (hl:IsList W gl r vs) (hk:ListKept W W' r vs.length) (hx:W.heap[x]? = some (.cells cs t (0,0))) (h1 : 116≠t) (h2 : 105≠t):W'.heap[x]? = some (.cells cs t (0,0)):=
 (hk.2 x (blk_lt hx) (fun ⟨i,hi,he⟩=>hl.ne_ty hx h1 h2 i hi he.symm)).trans hx
theorem FS.list (h:FS w W n g2 g3 gW gB gl r s) {r' : Nat→Nat} {op' : List Nat} (hl:IsList W' gl r' op') (hk:ListKept W W' r s.op.length) (hb:Below w.heap.size W W') (hr:∀ i,i≤op'.length→w.heap.size≤r' i) (ho:op'.length≤n) (hx:∀ x∈op',x < n):FS w W' n g2 g3 gW gB gl r' ⟨s.ws,s.bs,op'⟩:=
 ⟨⟨h.ok.lw,h.ok.lb,ho,hx⟩,kept_at (m:=0) h.l hk h.res (by decide) (by decide),kept_at (m:=0) h.l hk h.f (by decide) (by decide),kept_at (m:=0) h.l hk h.ww (by decide) (by decide),kept_at (m:=0) h.l hk h.bb (by decide) (by decide),hl,h.n23,h.below.trans hb,h.ge2,h.ge3,h.geW,h.geB,hr⟩
theorem FS.cellW (h:FS w W n g2 g3 gW gB gl r s) (k:Nat) (hk:k < n):(∃ v,W.cell? ⟨gW,k,none⟩=some v)∧W.frozen? ⟨gW,k,none⟩=false:=
 ⟨⟨_,(zzk h.ww k).trans (ints_at (by rw [h.ok.lw];exact hk))⟩,zzl h.ww k⟩
theorem FS.cellB (h:FS w W n g2 g3 gW gB gl r s) (k:Nat) (hk:k < n):(∃ v,W.cell? ⟨gB,k,none⟩=some v)∧W.frozen? ⟨gB,k,none⟩=false:=
 ⟨⟨_,(zzk h.bb k).trans (ints_at (by rw [h.ok.lb];exact hk))⟩,zzl h.bb k⟩
theorem FS.f0 (h:FS w W n g2 g3 gW gB gl r s):W.cell? ⟨g3,0,none⟩=some (.slice (some ⟨gW,0,none⟩) n n):=(zzk h.f 0).trans rfl
theorem FS.f1 (h:FS w W n g2 g3 gW gB gl r s):W.cell? ⟨g3,1,none⟩=some (.slice (some ⟨gB,0,none⟩) n n):=(zzk h.f 1).trans rfl
theorem ints_R {e:Nat} {l:List Int} {g base:Nat} (h:W.heap[g]? = some (.cells (ints l) e (0,0))) (hg:base≤g) (hm:l.length≤maxLen):(Kd.int .i64).R e W base (fun _=>True) (.slice (some ⟨g,0,none⟩) l.length l.length) l:=by
 refine Kd.R_of_own ?_ (fun _ _=>trivial);refine ⟨by simp [encs],.inr ⟨g,l.length,ints l,rfl,hg,h,Nat.le_refl _,hm,by simp [ints],?_⟩⟩;simp [ints,encs];rw [← List.map_take,List.take_length]
end
theorem eq_loop (a b:List Int) (hl:a.length=b.length) (hm:a.length≤9223372036854775807):∀ (d i:Nat),a.length - i=d→i≤a.length→∀ k,d < k→slices_Equal_int_int.l0 k a b (a.length:Int) (i:Int)=some (decide (a.drop i=b.drop i)):=by
 intro d;induction d with
 | zero=>
  intro i hd hi k hk;obtain ⟨k,rfl⟩:∃ k',k=k' + 1:=⟨k - 1,by omega⟩;rw [show a.drop i = [] from List.drop_eq_nil_of_le (by omega),show b.drop i = [] from List.drop_eq_nil_of_le (by omega)];simp only [slices_Equal_int_int.l0,if_neg (show ¬ (i:Int) < (a.length:Int) by omega),decide_true]
 | succ d ih=>
  intro i hd hi k hk;obtain ⟨k,rfl⟩:∃ k',k=k' + 1:=⟨k - 1,by omega⟩;have e1:wrap64 ((i:Int)+1)=((i+1:Nat):Int):=by unfold wrap64;omega
  have r1:∀ l:List Int,i < l.length→l.drop i=rd l (i:Int)::l.drop (i+1):=fun l h=>by
   rw [List.drop_eq_getElem_cons h];simp [rd,List.getD_eq_getElem?_getD,List.getElem?_eq_getElem h]
  rw [r1 a (by omega),r1 b (by omega)];simp only [slices_Equal_int_int.l0,if_pos (show (i:Int) < (a.length:Int) by omega),if_pos (show (0:Int)≤i by omega),if_pos (show (i:Int) < (b.length:Int) by omega),e1];by_cases h0:rd a i=rd b i
  ·rw [if_pos h0,ih (i+1) (by omega) (by omega) k (by omega)]
   simp [h0]
  ·rw [if_neg h0,decide_eq_false (by simp [h0])]
theorem eq_f (a b:List Int) (hm:a.length≤9223372036854775807):slices_Equal_int_int.f (a.length+1) a b=some (decide (a=b)):=by
 unfold slices_Equal_int_int.f;by_cases h:(a.length:Int)=(b.length:Int)
 ·rw [if_pos h]
  have:=eq_loop a b (by omega) hm a.length 0 (by omega) (by omega) (a.length+1) (by omega);simpa using this
 ·rw [if_neg h,decide_eq_false (fun e=>h (by rw [e]))]
theorem tells_calls (b0 b1:Bool) (b2 b3 b4:Int) (A5:Option Addr) (c5:Nat) (l5:List S34) (w:World) (hr:Kd.C k34 w A5 l5.length l5) (hc:l5.length≤c5) (hp : 0 < l5.length) :
  Calls Try.prog 92 #[.agg #[.bool b0,.bool b1,.int .i64 b2,.int .i64 b3,.int .i64 b4,.slice A5 l5.length c5]] w fun e w'=>e = .returned (.bool (decide ((rd_T34 l5 0).f5 = [1])))∧Below w.heap.size w w':=by
 obtain ⟨_,_,_,_,_,_,_,_,_,_,_,_,_,_,_,g5⟩:=at_T34 hr 0 (by omega) (by omega);have hm:=Kd.C_max g5;refine impl_Batch_tells.calls ((rd_T34 l5 0).f5.length+1) b0 b1 b2 b3 b4 A5 c5 l5 _ w hr hc ?_;unfold impl_Batch_tells.f;rw [if_pos (show (0:Int) < (l5.length:Int) by omega),eq_f _ _ hm];rfl
theorem made_ints (n:Nat):madeCells (Value.int .i64 0).cells n=ints (List.replicate n 0):=by
 apply Array.ext
 ·simp [madeCells,ints]
 ·intro i h1 h2
  have:i % 1=0:=by omega
  simp [madeCells,ints,Value.cells,this]
theorem make70 (n:Nat) (hn:n≤1000000) (W:World):(Instr.makeSlice 70 (.int .i64 (n:Int)) (.int .i64 (n:Int))).run Try.prog W = .ok (.slice (some ⟨W.heap.size,0,none⟩) n n) (W.alloc (.cells (ints (List.replicate n 0)) 74 (0,0))):=by
 obtain ⟨i0,hi,hz0,hz1,hz2⟩:=info_parts (show (Try.prog.info? 74).map (fun i=>(i.zero,i.size,i.bytes))=some (some (.int .i64 0),1,8) by kernel_rfl);have:=run_make (P:=Try.prog) W 70 74 i0 _ Try.underlying70 hi hz0 .i64 .i64 (n:Int) (n:Int) (by omega) (by omega) (by rw [hz2];omega) (by omega);rw [this,hz1,Nat.mul_one,Int.toNat_natCast,made_ints]
theorem make32 (n:Nat) (hn:n≤1000000) (W:World):(Instr.makeSlice 32 (.int .i64 (n:Int)) (.int .i64 (n:Int))).run Try.prog W = .ok (.slice (some ⟨W.heap.size,0,none⟩) n n) (W.alloc (.cells (ints (List.replicate n 0)) 3 (0,0))):=by
 obtain ⟨i0,hi,hz0,hz1,hz2⟩:=info_parts info3;have:=run_make (P:=Try.prog) W 32 3 i0 _ Try.underlying32 hi hz0 .i64 .i64 (n:Int) (n:Int) (by omega) (by omega) (by rw [hz2];omega) (by omega);rw [this,hz1,Nat.mul_one,Int.toNat_natCast,made_ints]
theorem al3_0 (W:World) (a b c:Obj):(((W.alloc a).alloc b).alloc c).heap[W.heap.size]? = some a:=zze (zze (blk_new W a) b) c
theorem al3_1 (W:World) (a b c:Obj):(((W.alloc a).alloc b).alloc c).heap[W.heap.size+1]? = some b:=by
 have:=blk_new (W.alloc a) b;rw [World.size_alloc] at this;exact zze this c
theorem al3_2 (W:World) (a b c:Obj):(((W.alloc a).alloc b).alloc c).heap[W.heap.size+1+1]? = some c:=by
 have:=blk_new ((W.alloc a).alloc b) c;rw [World.size_alloc,World.size_alloc] at this;exact this
theorem assert_int (x:Int) (W:World):(Instr.typeAssert (.iface 3 (.int .i64 x)) 20 3 false).run Try.prog W = .ok (.int .i64 x) W:=by
 simp [Instr.typeAssert,run_underlying Try.underlying3]
set_option maxHeartbeats 8000000 in
set_option maxRecDepth 100000 in
theorem impl_fatesOf.core (A0:Option Addr) (c0:Nat) (l0:List S27) (w:World) (hr0:Kd.C k27 w A0 l0.length l0) (hc0:l0.length≤c0) (hn:l0.length≤1000000) (hp:∀ j:Nat,j < l0.length→0 < (rd_T27 l0 (j:Int)).f5.length) :
  Calls Try.prog 62 #[.slice A0 l0.length c0] w fun e w'=>∃ v1 v2:Value,e = .returned (.agg #[v1,v2])∧Kd.R (Kd.int .i64) 74 w' w.heap.size (fun _=>True) v1 (fatesTo l0 l0.length).ws∧Kd.R (Kd.int .i64) 3 w' w.heap.size (fun _=>True) v2 (fatesTo l0 l0.length).bs∧Below w.heap.size w w':=by
 have HR:=zzm hr0;have HN:=zzm hn;have HP:=zzm hp;have HB:=zzm (Below.refl w.heap.size w);have hm1:=make70 l0.length hn;have hm2:=make32 l0.length hn;clear hr0 hc0 hn hp;go_enter Try.func62,Try.ntmps62;go_upto_region 1 with ((with_reducible refine gate_dst (N:=2) rfl ?_);refine box_event ?hg (N:=2) ?hd (cs:=#[.slice none 0 0,.slice none 0 0]) (t:=72) ?hr ?_;(case hd=>rfl);(case hg=>rfl);(case hr=>first|(go_simp;done)|(go_simp;rfl));intro g2 hg w1 hbox hb;have HB1:=zzm (zzp HB.out hb);have BK1:=zzm hbox;have GE1:=zzm (show w.heap.size≤g2 by rw [hg];exact HB.out.size);clear hb hbox hg);refine wp_mono (Q:=fun e a' W=>match e with | .normal=>∃ gW gB g3:Nat,a' = ⟨#[.slice A0 l0.length c0,undef,.pointer (some ⟨g2,0,none⟩),.pointer (some ⟨g3,0,none⟩),undef,undef,undef,undef,undef,undef,.slice A0 l0.length c0,.int .i64 (l0.length:Int),.slice (some ⟨gW,0,none⟩) l0.length l0.length,.slice A0 l0.length c0,.int .i64 (l0.length:Int),.slice (some ⟨gB,0,none⟩) l0.length l0.length,.agg #[.slice (some ⟨gW,0,none⟩) l0.length l0.length,.slice (some ⟨gB,0,none⟩) l0.length l0.length],undef,undef,undef,undef,undef,undef,undef,undef,undef,undef,undef,undef,undef,undef,undef,undef,undef,undef,undef,undef,undef,undef,undef,undef,undef,undef,undef,undef,undef,undef,undef,undef,undef,undef,undef,undef,undef,undef,undef,undef,undef,undef,undef,undef,undef,undef,undef,undef,undef,undef,undef,undef,undef,undef,undef,undef,undef,undef,undef,undef,undef,undef,undef,undef,undef,undef,undef,undef,undef,undef,undef,undef],[]⟩∧Aside0 (W.heap[g2]? = some (.cells #[.slice none 0 0,.slice none 0 0] 72 (0,0)))∧Aside0 (W.heap[g3]? = some (.cells #[.slice (some ⟨gW,0,none⟩) l0.length l0.length,.slice (some ⟨gB,0,none⟩) l0.length l0.length] 72 (0,0)))∧Aside0 (W.heap[gW]? = some (.cells (ints (List.replicate l0.length 0)) 74 (0,0)))∧Aside0 (W.heap[gB]? = some (.cells (ints (List.replicate l0.length 0)) 3 (0,0)))∧Aside0 (Below w.heap.size w W)∧Aside0 (w.heap.size≤g3∧w.heap.size≤gW∧w.heap.size≤gB∧g2≠g3)|_=>False) ?_ ?_
 ·refine wp_region_any (by kernel_rfl) ?_
  change wpAny _ _ _ _ _ _ _ (World.drew _);refine wpAny_take (i:=0) (v:=.slice A0 l0.length c0) rfl (by kernel_rfl) (by kernel_rfl) (by kernel_rfl) (fun _ _ _ h=>h) (Or.inl ⟨by rfl,by intro w;go_simp⟩) ?_;refine wpAny_take (i:=3) (v:=.slice A0 l0.length c0) rfl (by kernel_rfl) (by kernel_rfl) (by kernel_rfl) (fun _ _ _ h=>h) (Or.inl ⟨by rfl,by intro w;go_simp⟩) ?_;refine wpAny_take (i:=1) (v:=.int .i64 (l0.length:Int)) rfl (by kernel_rfl) (by kernel_rfl) (by kernel_rfl) (fun _ _ _ h=>h) (Or.inl ⟨by rfl,by intro w;go_simp⟩) ?_;refine wpAny_take (i:=4) (v:=.int .i64 (l0.length:Int)) rfl (by kernel_rfl) (by kernel_rfl) (by kernel_rfl) (fun _ _ _ h=>h) (Or.inl ⟨by rfl,by intro w;go_simp⟩) ?_;refine wpAny_ready (rs:=[2,5,7]) (by kernel_rfl) (by simp) ?_;refine AllReady.cons rfl (fun K hK=>?_) ?_
  ·go_simp
   refine hK _ _ ?_;clear hK K;refine wpAny_ready (rs:=[5,7]) (by kernel_rfl) (by simp) ?_;refine AllReady.cons rfl (fun K hK=>?_) ?_
   ·go_simp
    refine hK _ _ ?_;clear hK K;refine wpAny_take (i:=6) (v:=?_) rfl (by kernel_rfl) (by kernel_rfl) (by kernel_rfl) (fun _ _ _ h=>h) (Or.inl ⟨by rfl,?_⟩) ?_;rotate_left
    ·intro w
     go_simp;with_reducible rfl
    refine wpAny_ready (rs:=[7]) (by kernel_rfl) (by simp) ?_;refine AllReady.cons rfl (fun K hK=>?_) ?_
    ·go_simp
     refine hK _ _ ?_;clear hK K;refine wpAny_ready (rs:=[8]) (by kernel_rfl) (by simp) ?_;refine AllReady.cons rfl (fun K hK=>?_) AllReady.nil;go_simp;refine hK _ _ ?_;clear hK K;refine wpAny_done (by kernel_rfl) ?_ _;refine ⟨_,_,_,rfl,?_,?_,?_,?_,?_,?_⟩
     ·exact ⟨zzg (zze (zze (zze BK1.out _) _) _)⟩
     ·exact ⟨by first|exact zzg (al3_0 _ _ _ _)|exact zzg (al3_1 _ _ _ _)|exact zzg (al3_2 _ _ _ _)⟩
     ·exact ⟨by first|exact zzg (al3_0 _ _ _ _)|exact zzg (al3_1 _ _ _ _)|exact zzg (al3_2 _ _ _ _)⟩
     ·exact ⟨by first|exact zzg (al3_0 _ _ _ _)|exact zzg (al3_1 _ _ _ _)|exact zzg (al3_2 _ _ _ _)⟩
     ·exact ⟨zzc (zza (zza (zza HB1.out _) _) _)⟩
     ·exact ⟨by have h1:=HB1.out.size;have h2:=blk_lt BK1.out;refine ⟨?_,?_,?_,?_⟩ <;> omega⟩
    exact AllReady.nil
   refine AllReady.cons rfl (fun K hK=>?_) ?_
   ·go_simp
    refine hK _ _ ?_;clear hK K;refine wpAny_ready (rs:=[5]) (by kernel_rfl) (by simp) ?_;refine AllReady.cons rfl (fun K hK=>?_) ?_
    ·go_simp
     refine hK _ _ ?_;clear hK K;refine wpAny_take (i:=6) (v:=?_) rfl (by kernel_rfl) (by kernel_rfl) (by kernel_rfl) (fun _ _ _ h=>h) (Or.inl ⟨by rfl,?_⟩) ?_;rotate_left
     ·intro w
      go_simp;with_reducible rfl
     refine wpAny_ready (rs:=[8]) (by kernel_rfl) (by simp) ?_;refine AllReady.cons rfl (fun K hK=>?_) AllReady.nil;go_simp;refine hK _ _ ?_;clear hK K;refine wpAny_done (by kernel_rfl) ?_ _;refine ⟨_,_,_,rfl,?_,?_,?_,?_,?_,?_⟩
     ·exact ⟨zzg (zze (zze (zze BK1.out _) _) _)⟩
     ·exact ⟨by first|exact zzg (al3_0 _ _ _ _)|exact zzg (al3_1 _ _ _ _)|exact zzg (al3_2 _ _ _ _)⟩
     ·exact ⟨by first|exact zzg (al3_0 _ _ _ _)|exact zzg (al3_1 _ _ _ _)|exact zzg (al3_2 _ _ _ _)⟩
     ·exact ⟨by first|exact zzg (al3_0 _ _ _ _)|exact zzg (al3_1 _ _ _ _)|exact zzg (al3_2 _ _ _ _)⟩
     ·exact ⟨zzc (zza (zza (zza HB1.out _) _) _)⟩
     ·exact ⟨by have h1:=HB1.out.size;have h2:=blk_lt BK1.out;refine ⟨?_,?_,?_,?_⟩ <;> omega⟩
    exact AllReady.nil
   exact AllReady.nil
  refine AllReady.cons rfl (fun K hK=>?_) ?_
  ·go_simp
   refine hK _ _ ?_;clear hK K;refine wpAny_ready (rs:=[2,7]) (by kernel_rfl) (by simp) ?_;refine AllReady.cons rfl (fun K hK=>?_) ?_
   ·go_simp
    refine hK _ _ ?_;clear hK K;refine wpAny_take (i:=6) (v:=?_) rfl (by kernel_rfl) (by kernel_rfl) (by kernel_rfl) (fun _ _ _ h=>h) (Or.inl ⟨by rfl,?_⟩) ?_;rotate_left
    ·intro w
     go_simp;with_reducible rfl
    refine wpAny_ready (rs:=[7]) (by kernel_rfl) (by simp) ?_;refine AllReady.cons rfl (fun K hK=>?_) ?_
    ·go_simp
     refine hK _ _ ?_;clear hK K;refine wpAny_ready (rs:=[8]) (by kernel_rfl) (by simp) ?_;refine AllReady.cons rfl (fun K hK=>?_) AllReady.nil;go_simp;refine hK _ _ ?_;clear hK K;refine wpAny_done (by kernel_rfl) ?_ _;refine ⟨_,_,_,rfl,?_,?_,?_,?_,?_,?_⟩
     ·exact ⟨zzg (zze (zze (zze BK1.out _) _) _)⟩
     ·exact ⟨by first|exact zzg (al3_0 _ _ _ _)|exact zzg (al3_1 _ _ _ _)|exact zzg (al3_2 _ _ _ _)⟩
     ·exact ⟨by first|exact zzg (al3_0 _ _ _ _)|exact zzg (al3_1 _ _ _ _)|exact zzg (al3_2 _ _ _ _)⟩
     ·exact ⟨by first|exact zzg (al3_0 _ _ _ _)|exact zzg (al3_1 _ _ _ _)|exact zzg (al3_2 _ _ _ _)⟩
     ·exact ⟨zzc (zza (zza (zza HB1.out _) _) _)⟩
     ·exact ⟨by have h1:=HB1.out.size;have h2:=blk_lt BK1.out;refine ⟨?_,?_,?_,?_⟩ <;> omega⟩
    exact AllReady.nil
   refine AllReady.cons rfl (fun K hK=>?_) ?_
   ·go_simp
    refine hK _ _ ?_;clear hK K;refine wpAny_ready (rs:=[2]) (by kernel_rfl) (by simp) ?_;refine AllReady.cons rfl (fun K hK=>?_) ?_
    ·go_simp
     refine hK _ _ ?_;clear hK K;refine wpAny_take (i:=6) (v:=?_) rfl (by kernel_rfl) (by kernel_rfl) (by kernel_rfl) (fun _ _ _ h=>h) (Or.inl ⟨by rfl,?_⟩) ?_;rotate_left
     ·intro w
      go_simp;with_reducible rfl
     refine wpAny_ready (rs:=[8]) (by kernel_rfl) (by simp) ?_;refine AllReady.cons rfl (fun K hK=>?_) AllReady.nil;go_simp;refine hK _ _ ?_;clear hK K;refine wpAny_done (by kernel_rfl) ?_ _;refine ⟨_,_,_,rfl,?_,?_,?_,?_,?_,?_⟩
     ·exact ⟨zzg (zze (zze (zze BK1.out _) _) _)⟩
     ·exact ⟨by first|exact zzg (al3_0 _ _ _ _)|exact zzg (al3_1 _ _ _ _)|exact zzg (al3_2 _ _ _ _)⟩
     ·exact ⟨by first|exact zzg (al3_0 _ _ _ _)|exact zzg (al3_1 _ _ _ _)|exact zzg (al3_2 _ _ _ _)⟩
     ·exact ⟨by first|exact zzg (al3_0 _ _ _ _)|exact zzg (al3_1 _ _ _ _)|exact zzg (al3_2 _ _ _ _)⟩
     ·exact ⟨zzc (zza (zza (zza HB1.out _) _) _)⟩
     ·exact ⟨by have h1:=HB1.out.size;have h2:=blk_lt BK1.out;refine ⟨?_,?_,?_,?_⟩ <;> omega⟩
    exact AllReady.nil
   exact AllReady.nil
  refine AllReady.cons rfl (fun K hK=>?_) ?_
  ·go_simp
   refine hK _ _ ?_;clear hK K;refine wpAny_ready (rs:=[2,5]) (by kernel_rfl) (by simp) ?_;refine AllReady.cons rfl (fun K hK=>?_) ?_
   ·go_simp
    refine hK _ _ ?_;clear hK K;refine wpAny_ready (rs:=[5]) (by kernel_rfl) (by simp) ?_;refine AllReady.cons rfl (fun K hK=>?_) ?_
    ·go_simp
     refine hK _ _ ?_;clear hK K;refine wpAny_take (i:=6) (v:=?_) rfl (by kernel_rfl) (by kernel_rfl) (by kernel_rfl) (fun _ _ _ h=>h) (Or.inl ⟨by rfl,?_⟩) ?_;rotate_left
     ·intro w
      go_simp;with_reducible rfl
     refine wpAny_ready (rs:=[8]) (by kernel_rfl) (by simp) ?_;refine AllReady.cons rfl (fun K hK=>?_) AllReady.nil;go_simp;refine hK _ _ ?_;clear hK K;refine wpAny_done (by kernel_rfl) ?_ _;refine ⟨_,_,_,rfl,?_,?_,?_,?_,?_,?_⟩
     ·exact ⟨zzg (zze (zze (zze BK1.out _) _) _)⟩
     ·exact ⟨by first|exact zzg (al3_0 _ _ _ _)|exact zzg (al3_1 _ _ _ _)|exact zzg (al3_2 _ _ _ _)⟩
     ·exact ⟨by first|exact zzg (al3_0 _ _ _ _)|exact zzg (al3_1 _ _ _ _)|exact zzg (al3_2 _ _ _ _)⟩
     ·exact ⟨by first|exact zzg (al3_0 _ _ _ _)|exact zzg (al3_1 _ _ _ _)|exact zzg (al3_2 _ _ _ _)⟩
     ·exact ⟨zzc (zza (zza (zza HB1.out _) _) _)⟩
     ·exact ⟨by have h1:=HB1.out.size;have h2:=blk_lt BK1.out;refine ⟨?_,?_,?_,?_⟩ <;> omega⟩
    exact AllReady.nil
   refine AllReady.cons rfl (fun K hK=>?_) ?_
   ·go_simp
    refine hK _ _ ?_;clear hK K;refine wpAny_ready (rs:=[2]) (by kernel_rfl) (by simp) ?_;refine AllReady.cons rfl (fun K hK=>?_) ?_
    ·go_simp
     refine hK _ _ ?_;clear hK K;refine wpAny_take (i:=6) (v:=?_) rfl (by kernel_rfl) (by kernel_rfl) (by kernel_rfl) (fun _ _ _ h=>h) (Or.inl ⟨by rfl,?_⟩) ?_;rotate_left
     ·intro w
      go_simp;with_reducible rfl
     refine wpAny_ready (rs:=[8]) (by kernel_rfl) (by simp) ?_;refine AllReady.cons rfl (fun K hK=>?_) AllReady.nil;go_simp;refine hK _ _ ?_;clear hK K;refine wpAny_done (by kernel_rfl) ?_ _;refine ⟨_,_,_,rfl,?_,?_,?_,?_,?_,?_⟩
     ·exact ⟨zzg (zze (zze (zze BK1.out _) _) _)⟩
     ·exact ⟨by first|exact zzg (al3_0 _ _ _ _)|exact zzg (al3_1 _ _ _ _)|exact zzg (al3_2 _ _ _ _)⟩
     ·exact ⟨by first|exact zzg (al3_0 _ _ _ _)|exact zzg (al3_1 _ _ _ _)|exact zzg (al3_2 _ _ _ _)⟩
     ·exact ⟨by first|exact zzg (al3_0 _ _ _ _)|exact zzg (al3_1 _ _ _ _)|exact zzg (al3_2 _ _ _ _)⟩
     ·exact ⟨zzc (zza (zza (zza HB1.out _) _) _)⟩
     ·exact ⟨by have h1:=HB1.out.size;have h2:=blk_lt BK1.out;refine ⟨?_,?_,?_,?_⟩ <;> omega⟩
    exact AllReady.nil
   exact AllReady.nil
  exact AllReady.nil
 ·intro e a' w2 hq
  cases e with
  | normal=>?_
  | _=>exact hq.elim
  obtain ⟨gW,gB,g3,rfl,H2,H3,HW0,HY0,HB2,HGE⟩:=hq;clear hm1 hm2 HB1 BK1;have HS0:=zzm (And.intro H2.out (And.intro H3.out (And.intro HW0.out HY0.out)));go_wp2_with ((with_reducible refine gate_callee (f:=88) rfl ?_);refine goesL_ (some 17) rfl rfl Try.func88 (by kernel_rfl) rfl #[] rfl (by (try simp only [map_toArray,map_cons,map_nil]);first|done|rfl) ?_;(with_reducible refine (list_New.calls _).mono ?_);rintro e w3 ⟨gl,r0,rfl,hl,hge,hb⟩;refine ⟨_,rfl,?_⟩;have HS1:=zzm (show FS w w3 l0.length g2 g3 gW gB gl r0 (fatesTo l0 0) from ⟨(fates_ok l0 0 (Nat.zero_le _)).mono (Nat.zero_le _),zzh HS0.out.1 hb,zzh HS0.out.2.1 hb,zzh HS0.out.2.2.1 hb,zzh HS0.out.2.2.2 hb,hl,HGE.out.2.2.2,zzp HB2.out hb,GE1.out,HGE.out.1,HGE.out.2.1,HGE.out.2.2.1,fun i hi=>by have h0:i=0:=Nat.le_zero.1 hi;subst h0;exact Nat.le_trans (Nat.le_trans HB2.out.size hge) (Nat.le_of_eq hl.r0.symm)⟩);clear hl hge hb);clear HS0 H2 H3 HW0 HY0 HB2 HGE;go_loopw [20] (fun i W=>∃ k:Nat,∃ r,k≤l0.length∧i = .int .i64 k∧Aside0 (FS w W l0.length g2 g3 gW gB gl r (fatesTo l0 k))) (fun i _=>l0.length - (intOf i).toNat)
  case atStart=>exact ⟨0,r0,Nat.zero_le _,rfl,HS1⟩
  case round=>
   clear HS1;obtain ⟨k,r,hk,rfl,HS⟩:=hrel;by_cases hlt:k < l0.length
   ·obtain ⟨ad,A5,c5,he,hx0,hx1,hx2,hx3,hx4,hx5,l5,g5⟩:=at_T27 HR.out (k:Int) (by omega) (by omega)
    subst he;have hbl:=HS.out.below;replace hx0:=(hbl.cell (zzn w _ hx0)).trans hx0;replace hx1:=(hbl.cell (zzn w _ hx1)).trans hx1;replace hx2:=(hbl.cell (zzn w _ hx2)).trans hx2;replace hx3:=(hbl.cell (zzn w _ hx3)).trans hx3;replace hx4:=(hbl.cell (zzn w _ hx4)).trans hx4;replace hx5:=(hbl.cell (zzn w _ hx5)).trans hx5;simp only [Int.toNat_natCast] at hx0 hx1 hx2 hx3 hx4 hx5;have L5:=zzm l5;have G5:=zzm g5;have P5:=zzm (HP.out k hlt);have hsu:=fatesTo_succ l0 k;unfold fstep at hsu;have HF:=zzm (fates_ok l0 k hk);clear hbl l5 g5;obtain ⟨b,hb_⟩:∃ b,b=rd_T27 l0 (k:Int):=⟨_,rfl⟩;rw [← hb_] at hx0 hx1 hx2 hx3 hx4 hx5 L5 G5 P5 hsu;have HSU:=zzm hsu;have HBE:=zzm hb_;clear hsu hb_;obtain ⟨s,hs_⟩:∃ s,s=fatesTo l0 k:=⟨_,rfl⟩;rw [← hs_] at HS HSU HF;clear hs_;have hks:k < 1000000:=by have:=HN.out;omega
    have hki:(k:Int) < (l0.length:Int):=by omega
    have hki0 : 0≤(k:Int):=by omega
    go_upto_region 6 with ((with_reducible refine gate_dst (N:=6) rfl ?_);refine box_event ?hg (N:=6) ?hd (cs:=#[.bool false,.bool false,.int .i64 0,.int .i64 0,.int .i64 0,.slice none 0 0]) (t:=27) ?hr ?_;(case hd=>rfl);(case hg=>rfl);(case hr=>first|(go_simp;done)|(go_simp;rfl));intro gb hg w13 hbox hb;have HX:=zzm hb;have BX:=zzm hbox;have GX:=zzm (Nat.le_of_eq hg.symm);clear hb hbox hg;have hz0:w13.cell? ⟨_,0,none⟩=some _:=(zzk BX.out 0).trans rfl;have hf0:=zzl BX.out 0;have hz1:w13.cell? ⟨_,1,none⟩=some _:=(zzk BX.out 1).trans rfl;have hf1:=zzl BX.out 1;have hz2:w13.cell? ⟨_,2,none⟩=some _:=(zzk BX.out 2).trans rfl;have hf2:=zzl BX.out 2;have hz3:w13.cell? ⟨_,3,none⟩=some _:=(zzk BX.out 3).trans rfl;have hf3:=zzl BX.out 3;have hz4:w13.cell? ⟨_,4,none⟩=some _:=(zzk BX.out 4).trans rfl;have hf4:=zzl BX.out 4;have hz5:w13.cell? ⟨_,5,none⟩=some _:=(zzk BX.out 5).trans rfl;have hf5:=zzl BX.out 5);have HS4:=zzm (HS.out.mono (((((((HX.out).setCell (p:=⟨gb,0,none⟩) GX.out (.bool b.f0)).setCell (p:=⟨gb,1,none⟩) GX.out (.bool b.f1)).setCell (p:=⟨gb,2,none⟩) GX.out (.int .i64 b.f2)).setCell (p:=⟨gb,3,none⟩) GX.out (.int .i64 b.f3)).setCell (p:=⟨gb,4,none⟩) GX.out (.int .i64 b.f4)).setCell (p:=⟨gb,5,none⟩) GX.out (.slice A5 b.f5.length c5)));have BG4:=zzm (zzi (cs:=#[.bool b.f0,.bool b.f1,.int .i64 b.f2,.int .i64 b.f3,.int .i64 b.f4,.slice none 0 0]) (cs':=#[.bool b.f0,.bool b.f1,.int .i64 b.f2,.int .i64 b.f3,.int .i64 b.f4,.slice A5 b.f5.length c5]) (zzi (cs:=#[.bool b.f0,.bool b.f1,.int .i64 b.f2,.int .i64 b.f3,.int .i64 0,.slice none 0 0]) (cs':=#[.bool b.f0,.bool b.f1,.int .i64 b.f2,.int .i64 b.f3,.int .i64 b.f4,.slice none 0 0]) (zzi (cs:=#[.bool b.f0,.bool b.f1,.int .i64 b.f2,.int .i64 0,.int .i64 0,.slice none 0 0]) (cs':=#[.bool b.f0,.bool b.f1,.int .i64 b.f2,.int .i64 b.f3,.int .i64 0,.slice none 0 0]) (zzi (cs:=#[.bool b.f0,.bool b.f1,.int .i64 0,.int .i64 0,.int .i64 0,.slice none 0 0]) (cs':=#[.bool b.f0,.bool b.f1,.int .i64 b.f2,.int .i64 0,.int .i64 0,.slice none 0 0]) (zzi (cs:=#[.bool b.f0,.bool false,.int .i64 0,.int .i64 0,.int .i64 0,.slice none 0 0]) (cs':=#[.bool b.f0,.bool b.f1,.int .i64 0,.int .i64 0,.int .i64 0,.slice none 0 0]) (zzi (cs:=#[.bool false,.bool false,.int .i64 0,.int .i64 0,.int .i64 0,.slice none 0 0]) (cs':=#[.bool b.f0,.bool false,.int .i64 0,.int .i64 0,.int .i64 0,.slice none 0 0]) (BX.out) 0 (.bool b.f0) rfl) 1 (.bool b.f1) rfl) 2 (.int .i64 b.f2) rfl) 3 (.int .i64 b.f3) rfl) 4 (.int .i64 b.f4) rfl) 5 (.slice A5 b.f5.length c5) rfl);clear hz0 hz1 hz2 hz3 hz4 hz5 hf0 hf1 hf2 hf3 hf4 hf5 hx0 hx1 hx2 hx3 hx4 hx5 HS BX;generalize (((((w13.setCell ⟨gb,0,none⟩ (.bool b.f0)).setCell ⟨gb,1,none⟩ (.bool b.f1)).setCell ⟨gb,2,none⟩ (.int .i64 b.f2)).setCell ⟨gb,3,none⟩ (.int .i64 b.f3)).setCell ⟨gb,4,none⟩ (.int .i64 b.f4)).setCell ⟨gb,5,none⟩ (.slice A5 b.f5.length c5)=w14 at HS4 BG4 ⊢;have hc1:=HS4.out.f1;obtain ⟨⟨vy,hy⟩,hfy⟩:=HS4.out.cellB k hlt;go_upto_region 19 with fail;have HS5:=zzm (HS4.out.setB k (-1));have BG5:=zzm (zzj (p:=⟨gB,k,none⟩) BG4.out (blk_ne BG4.out HS4.out.bb (by decide)) (.int .i64 (-1)));clear hc1 hy hfy HS4 BG4;generalize w14.setCell ⟨gB,k,none⟩ (.int .i64 (-1))=w15 at HS5 BG5 ⊢;have d1:w15.cell? ⟨gb,1,none⟩=some (.bool b.f1):=(zzk BG5.out 1).trans rfl;have d2:w15.cell? ⟨gb,2,none⟩=some (.int .i64 b.f2):=(zzk BG5.out 2).trans rfl;have hc0:=HS5.out.f0;obtain ⟨⟨vw,hw_⟩,hfw⟩:=HS5.out.cellW k hlt;by_cases h255:b.f2=255
    ·have HQ:=zzm (HSU.out.trans (if_pos h255))
     rw [h255] at d2;clear h255;go_wp2;go_roundw
     case rel=>exact ⟨k+1,r,by omega,by go_num,⟨by rw [HQ.out];exact HS5.out.setW k 1⟩⟩
     case measure=>simp [intOf];omega
    ·have h255' : (b.f2==255)=false:=by simpa using h255
     rw [if_neg h255] at HSU;clear h255;have HSU0:=HSU.out;cases hm:b.f1 with
     | false=>
      have HQ:=zzm (HSU0.trans (if_pos hm));rw [hm] at d1;clear HSU0 hm;go_wp2_with ((with_reducible refine gate_callee (f:=89) rfl ?_);refine goesL_ (some 86) rfl rfl Try.func89 (by kernel_rfl) rfl #[.pointer (some ⟨gl,0,none⟩),.iface 3 (.int .i64 (k:Int))] rfl (by (try simp only [map_toArray,map_cons,map_nil]);first|done|rfl) ?_;(with_reducible refine (list_PushBack.calls gl r s.op k _ HS5.out.l (by have:=HF.out.lo;have:=HN.out;omega)).mono ?_);rintro e w16 ⟨nb,rfl,hge,hl,hkp,hbl⟩;refine ⟨_,rfl,?_⟩;have HNB:=zzm hge;have HL6:=zzm hl;have HK6:=zzm hkp;have HB6:=zzm (hbl w.heap.size HS5.out.below.size HS5.out.geL);clear hge hl hkp hbl);go_roundw
      case rel=>
       have hge:∀ i,i≤(s.op ++ [k]).length→w.heap.size≤rAdd r s.op.length nb gl i:=by
        intro i hi;unfold rAdd;split
        ·exact HS5.out.geL i (by assumption)
        ·split
         ·exact Nat.le_trans HS5.out.below.size HNB.out
         ·have:=HS5.out.geL 0 (Nat.zero_le _);rw [HS5.out.l.r0] at this;exact this
       have hlo:=HF.out.lo;exact ⟨k+1,rAdd r s.op.length nb gl,by omega,by go_num,⟨by rw [HQ.out];exact HS5.out.list HL6.out HK6.out HB6.out hge (by simp;omega) (fun x hx=>by rcases List.mem_append.1 hx with hx|hx;exact HF.out.op x hx;rw [List.mem_singleton.1 hx];exact hlt)⟩⟩
      case measure=>simp [intOf];omega
     | true=>
      rw [if_neg (by rw [hm];simp)] at HSU0;have HQ:=zzm HSU0;rw [hm] at d1;clear HSU0 hm;have BG0:=BG5;go_upto_region 8 with fail;have HS6:=zzm (HS5.out.setW k 3);have BG6:=zzm (zzj (p:=⟨gW,k,none⟩) BG5.out (blk_ne BG5.out HS5.out.ww (by decide)) (.int .i64 3));clear hc0 hw_ hfw d1 d2 HS5 BG5 BG0;generalize w15.setCell ⟨gW,k,none⟩ (.int .i64 3)=w16 at HS6 BG6 ⊢;go_wp2_with ((with_reducible refine gate_callee (f:=90) rfl ?_);refine goesL_ (some 34) rfl rfl Try.func90 (by kernel_rfl) rfl #[.pointer (some ⟨gl,0,none⟩)] rfl (by (try simp only [map_toArray,map_cons,map_nil]);first|done|rfl) ?_;(with_reducible refine (list_Front.calls gl r s.op _ HS6.out.l (by have:=HF.out.lo;have:=HN.out;omega)).mono ?_);rintro e w17 ⟨he,hd⟩;obtain ⟨ev,rfl⟩:∃ ev,e = .returned ev:=⟨_,he⟩;have HEV:=zzm (Ending.returned.inj he);clear he;refine ⟨_,rfl,?_⟩;obtain ⟨m,rfl⟩:=hd.out;have HS7:=zzm (HS6.out.mono (zzb (Below.refl _ _) m));have BG7:=zzm (zzf BG6.out m);clear hd HS6 BG6;generalize w16.drewN m=w17 at HS7 BG7 ⊢);go_loopg [7] s.op.length (fun gk v W=>∃ j:Nat,∃ r' : Nat→Nat,∃ st:FSt,j+gk=s.op.length∧st=(s.op.take j).foldl (fin1 l0 k) ⟨s.ws.set k 3,s.bs.set k (-1),[]⟩∧v = .pointer (if j < s.op.length then some ⟨r' (st.op.length+1),0,none⟩ else none)∧Aside0 (FS w W l0.length g2 g3 gW gB gl r' ⟨st.ws,st.bs,st.op++s.op.drop j⟩)∧Aside0 (W.heap[gb]? = some (.cells #[.bool b.f0,.bool b.f1,.int .i64 b.f2,.int .i64 b.f3,.int .i64 b.f4,.slice A5 b.f5.length c5] 27 (0,0))))
      case atStart=>exact ⟨0,r,_,by omega,rfl,by simpa using HEV.out,⟨by simpa using HS7.out⟩,BG7⟩
      case round=>
       clear HS7 BG7;obtain ⟨j,r',st,hjk,hst,rfl,HS,BG⟩:=hrel;by_cases hj:j < s.op.length
       ·have hst2:=hst
        rw [if_pos hj] at *;obtain ⟨x,hx⟩:∃ x,x=s.op[j]:=⟨_,rfl⟩;have hdrop:s.op.drop j=x::s.op.drop (j+1):=by rw [hx];exact List.drop_eq_getElem_cons hj
        have hxn:x < l0.length:=by rw [hx];exact HF.out.op _ (List.getElem_mem hj)
        have htk:s.op.take (j+1)=s.op.take j ++ [x]:=by rw [hx];exact List.take_succ_eq_append_getElem hj
        have hnx:(s.op.take (j+1)).foldl (fin1 l0 k) ⟨s.ws.set k 3,s.bs.set k (-1),[]⟩=fin1 l0 k st x:=by rw [htk,List.foldl_append,← hst];rfl
        have hlen:(st.op++s.op.drop j).length=st.op.length+(s.op.length - j):=by simp
        have hp:st.op.length < (st.op++s.op.drop j).length:=by omega
        have hvx:(st.op++s.op.drop j)[st.op.length]'hp=x:=by simp [hdrop]
        have hlo:st.op.length≤1000000:=by have:=HS.out.ok.lo;have h2:=HN.out;simp only [hlen] at this;omega
        have hlo2:(st.op++s.op.drop j).length < 1000000000000:=by have:=HS.out.ok.lo;have h2:=HN.out;simp only at this;omega
        have hL:=HS.out.l;have hvc:wr.cell? ⟨r' (st.op.length+1),3,none⟩=some (.iface 3 (.int .i64 (x:Int))):=by have:=(zzk (hL.node st.op.length hp) 3).trans rfl;rw [hvx] at this;exact this
        have hNX:=zzm (And.intro hnx (And.intro hst2 (And.intro hdrop (And.intro hxn hjk))));have HLO:=zzm (And.intro hlo2 hp);have HJ:=zzm hj;obtain ⟨ad2,A6,c6,he2,ha0,ha1,ha2,ha3,ha4,ha5,l6,g6⟩:=at_T27 HR.out (x:Int) (by omega) (by omega);injection he2 with he2;subst he2;replace ha2:=(HS.out.below.cell (zzn w _ ha2)).trans ha2;simp only [Int.toNat_natCast] at ha2;have d2:wr.cell? ⟨gb,2,none⟩=some (.int .i64 b.f2):=(zzk BG.out 2).trans rfl;have hxi:(x:Int) < (l0.length:Int):=by omega
        have hxi0 : 0≤(x:Int):=by omega
        clear hst2 hnx htk hdrop hxn hvx hlo hlo2 hp hlen hL hst hjk hj ha0 ha1 ha3 ha4 ha5 l6 g6 hx;have hxn:x < l0.length:=by omega
        have hta:∀ W:World,(Instr.typeAssert (.iface 3 (.int .i64 (x:Int))) 20 3 false).run Try.prog W = .ok (.int .i64 (x:Int)) W:=fun W=>assert_int _ W;have hP8:∀ W:World,Below wr.heap.size wr W→Aside0 (FS w W l0.length g2 g3 gW gB gl r' ⟨st.ws,st.bs,st.op++s.op.drop j⟩)∧Aside0 (W.heap[gb]? = some (.cells #[.bool b.f0,.bool b.f1,.int .i64 b.f2,.int .i64 b.f3,.int .i64 b.f4,.slice A5 b.f5.length c5] 27 (0,0))):=fun W hb=>⟨⟨HS.out.mono hb⟩,⟨zzh BG.out hb⟩⟩;have HP8:=zzm hP8;clear hP8;by_cases hxe:(rd_T27 l0 (x:Int)).f2=b.f2
        ·have HXE:=zzm hxe
         rw [hxe] at ha2;clear hxe;go_upto_region 12 with (((with_reducible refine gate_callee (f:=91) rfl ?_);refine goesL_ (some 38) rfl rfl Try.func91 (by kernel_rfl) rfl #[.pointer (some ⟨r' (st.op.length+1),0,none⟩)] rfl (by (try simp only [map_toArray,map_cons,map_nil]);first|done|rfl) ?_;(with_reducible refine (list_Next.calls gl r' (st.op++s.op.drop j) _ HS.out.l st.op.length HLO.out.2).mono ?_);rintro e w18 ⟨he,hd⟩;obtain ⟨ev2,rfl⟩:∃ ev,e = .returned ev:=⟨_,he⟩;have HEV2:=zzm (Ending.returned.inj he);clear he;refine ⟨_,rfl,?_⟩;obtain ⟨m2,rfl⟩:=hd.out;clear hd));go_region;obtain ⟨HS8,BG8⟩:=HP8.out _ (zzb (Below.refl _ _) (m2+1));clear hvc ha2 d2 HS BG HP8 hta;generalize wr.drewN (m2+1)=w18 at HS8 BG8 ⊢;obtain ⟨tv,htl⟩:∃ tv,tellsP b=tv:=⟨_,rfl⟩;have HTL:=zzm htl;clear htl;cases tv with
         | true=>
          have hc0:=HS8.out.f0;obtain ⟨⟨vw,hw_⟩,hfw⟩:=HS8.out.cellW x hxn;go_upto_region 14 with fail;have HS9:=zzm (HS8.out.setW x 2);have BG9:=zzm (zzj (p:=⟨gW,x,none⟩) BG8.out (blk_ne BG8.out HS8.out.ww (by decide)) (.int .i64 2));clear hc0 hw_ hfw HS8 BG8;generalize w18.setCell ⟨gW,x,none⟩ (.int .i64 2)=w19 at HS9 BG9 ⊢;have b0:w19.cell? ⟨gb,0,none⟩=some (.bool b.f0):=(zzk BG9.out 0).trans rfl;have b1:w19.cell? ⟨gb,1,none⟩=some (.bool b.f1):=(zzk BG9.out 1).trans rfl;have b2:w19.cell? ⟨gb,2,none⟩=some (.int .i64 b.f2):=(zzk BG9.out 2).trans rfl;have b3:w19.cell? ⟨gb,3,none⟩=some (.int .i64 b.f3):=(zzk BG9.out 3).trans rfl;have b4:w19.cell? ⟨gb,4,none⟩=some (.int .i64 b.f4):=(zzk BG9.out 4).trans rfl;have b5:w19.cell? ⟨gb,5,none⟩=some (.slice A5 b.f5.length c5):=(zzk BG9.out 5).trans rfl;go_upto_region 15 with (((with_reducible refine gate_callee (f:=92) rfl ?_);refine goesL_ (some 57) rfl rfl Try.func92 (by kernel_rfl) rfl #[.agg #[.bool b.f0,.bool b.f1,.int .i64 b.f2,.int .i64 b.f3,.int .i64 b.f4,.slice A5 b.f5.length c5]] rfl (by (try simp only [map_toArray,map_cons,map_nil]);first|done|rfl) ?_;(with_reducible refine (tells_calls _ _ _ _ _ _ _ b.f5 _ ?s1 L5.out P5.out).mono ?_);(case s1=>exact Kd.C_below G5.out HS9.out.below);rintro e w20 ⟨he,hb⟩;rw [show decide ((rd_T34 b.f5 0).f5 = [1])=true from HTL.out] at he;subst he;refine ⟨_,rfl,?_⟩;have HS10:=zzm (HS9.out.mono hb);have BG10:=zzm (zzh BG9.out hb);clear hb));clear b0 b1 b2 b3 b4 b5 HS9 BG9;have hc0:=HS10.out.f0;obtain ⟨⟨vw,hw_⟩,hfw⟩:=HS10.out.cellW x hxn;go_upto_region 16 with fail;have HS11:=zzm (HS10.out.setW x 1);have BG11:=zzm (zzj (p:=⟨gW,x,none⟩) BG10.out (blk_ne BG10.out HS10.out.ww (by decide)) (.int .i64 1));rw [List.set_set] at HS11;clear hc0 hw_ hfw HS10 BG10;generalize w20.setCell ⟨gW,x,none⟩ (.int .i64 1)=w21 at HS11 BG11 ⊢;have hc1:=HS11.out.f1;obtain ⟨⟨vy,hy⟩,hfy⟩:=HS11.out.cellB x hxn;go_upto_region 17 with fail;have HS12:=zzm (HS11.out.setB x (k:Int));have BG12:=zzm (zzj (p:=⟨gB,x,none⟩) BG11.out (blk_ne BG11.out HS11.out.bb (by decide)) (.int .i64 (k:Int)));clear hc1 hy hfy HS11 BG11;generalize w21.setCell ⟨gB,x,none⟩ (.int .i64 (k:Int))=w22 at HS12 BG12 ⊢;go_wp2_with (((with_reducible refine gate_callee (f:=93) rfl ?_);refine goesL_ (some 69) rfl rfl Try.func93 (by kernel_rfl) rfl #[.pointer (some ⟨gl,0,none⟩),.pointer (some ⟨r' (st.op.length+1),0,none⟩)] rfl (by (try simp only [map_toArray,map_cons,map_nil]);first|done|rfl) ?_;(with_reducible refine (list_Remove.calls gl r' (st.op++s.op.drop j) st.op.length _ HS12.out.l HLO.out.1 HLO.out.2).mono ?_);rintro e w23 ⟨rfl,hl,hkp,hbl⟩;refine ⟨_,rfl,?_⟩;have HL13:=zzm hl;have HK13:=zzm hkp;have HB13:=zzm (hbl w.heap.size HS12.out.geL);have BG13:=zzm (kept_at (m:=0) HS12.out.l hkp BG12.out (by decide) (by decide));clear hl hkp hbl));go_roundg (gk - 1)
          case measure=>have h1:=hNX.out.2.2.2.2;have h2:=HJ.out;omega
          case rel=>
           obtain ⟨hnx,hst2,hdrop,hxn_,hjk⟩:=hNX.out;have hj:=HJ.out;have hf:fin1 l0 k st x=⟨st.ws.set x 1,st.bs.set x (k:Int),st.op⟩:=by unfold fin1;rw [if_pos (by rw [← HBE.out];exact HXE.out),← HBE.out,HTL.out];rfl
           have her:(st.op++s.op.drop j).eraseIdx st.op.length=st.op++s.op.drop (j+1):=by rw [hdrop];simp [List.eraseIdx_append_of_length_le]
           have hlen:(st.op++s.op.drop j).length=st.op.length+(s.op.length - j):=by simp
           have hEV:=HEV2.out;have hgl:=HS12.out.geL;have hll:=HL13.out;rw [her] at hll;refine ⟨j+1,rRem r' st.op.length,_,by omega,hnx.symm,?_,?_,BG13⟩
           ·rw [hf,hEV,hlen]
            unfold rRem;rw [if_neg (show ¬ st.op.length+1≤st.op.length by omega)];by_cases hj2:j+1 < s.op.length
            ·rw [if_pos (show st.op.length+1 < st.op.length+(s.op.length - j) by omega),if_pos hj2]
            ·rw [if_neg (show ¬ st.op.length+1 < st.op.length+(s.op.length - j) by omega),if_neg hj2]
           ·rw [hf]
            refine ⟨HS12.out.list hll HK13.out HB13.out (fun i hi=>?_) ?_ (fun y hy=>?_)⟩
            ·have hi2:i+1≤(st.op++s.op.drop j).length:=by rw [hlen];simp at hi;omega
             unfold rRem;split
             ·exact hgl i (by simp only;omega)
             ·exact hgl (i+1) hi2
            ·have:=HS12.out.ok.lo;simp only [hlen] at this;simp;omega
            ·refine HS12.out.ok.op y ?_
             rw [show (st.op++s.op.drop j)=st.op++x::s.op.drop (j+1) by rw [hdrop]];rcases List.mem_append.1 hy with h|h
             ·exact List.mem_append_left _ h
             ·exact List.mem_append_right _ (List.mem_cons_of_mem _ h)
         | false=>
          have hc0:=HS8.out.f0;obtain ⟨⟨vw,hw_⟩,hfw⟩:=HS8.out.cellW x hxn;go_upto_region 14 with fail;have HS9:=zzm (HS8.out.setW x 2);have BG9:=zzm (zzj (p:=⟨gW,x,none⟩) BG8.out (blk_ne BG8.out HS8.out.ww (by decide)) (.int .i64 2));clear hc0 hw_ hfw HS8 BG8;generalize w18.setCell ⟨gW,x,none⟩ (.int .i64 2)=w19 at HS9 BG9 ⊢;have b0:w19.cell? ⟨gb,0,none⟩=some (.bool b.f0):=(zzk BG9.out 0).trans rfl;have b1:w19.cell? ⟨gb,1,none⟩=some (.bool b.f1):=(zzk BG9.out 1).trans rfl;have b2:w19.cell? ⟨gb,2,none⟩=some (.int .i64 b.f2):=(zzk BG9.out 2).trans rfl;have b3:w19.cell? ⟨gb,3,none⟩=some (.int .i64 b.f3):=(zzk BG9.out 3).trans rfl;have b4:w19.cell? ⟨gb,4,none⟩=some (.int .i64 b.f4):=(zzk BG9.out 4).trans rfl;have b5:w19.cell? ⟨gb,5,none⟩=some (.slice A5 b.f5.length c5):=(zzk BG9.out 5).trans rfl;go_upto_region 16 with (((with_reducible refine gate_callee (f:=92) rfl ?_);refine goesL_ (some 57) rfl rfl Try.func92 (by kernel_rfl) rfl #[.agg #[.bool b.f0,.bool b.f1,.int .i64 b.f2,.int .i64 b.f3,.int .i64 b.f4,.slice A5 b.f5.length c5]] rfl (by (try simp only [map_toArray,map_cons,map_nil]);first|done|rfl) ?_;(with_reducible refine (tells_calls _ _ _ _ _ _ _ b.f5 _ ?s1 L5.out P5.out).mono ?_);(case s1=>exact Kd.C_below G5.out HS9.out.below);rintro e w20 ⟨he,hb⟩;rw [show decide ((rd_T34 b.f5 0).f5 = [1])=false from HTL.out] at he;subst he;refine ⟨_,rfl,?_⟩;have HS10:=zzm (HS9.out.mono hb);have BG10:=zzm (zzh BG9.out hb);clear hb));clear b0 b1 b2 b3 b4 b5 HS9 BG9;have HS11:=HS10;have BG11:=BG10;clear HS10 BG10;have hc1:=HS11.out.f1;obtain ⟨⟨vy,hy⟩,hfy⟩:=HS11.out.cellB x hxn;go_upto_region 17 with fail;have HS12:=zzm (HS11.out.setB x (k:Int));have BG12:=zzm (zzj (p:=⟨gB,x,none⟩) BG11.out (blk_ne BG11.out HS11.out.bb (by decide)) (.int .i64 (k:Int)));clear hc1 hy hfy HS11 BG11;generalize w20.setCell ⟨gB,x,none⟩ (.int .i64 (k:Int))=w22 at HS12 BG12 ⊢;go_wp2_with (((with_reducible refine gate_callee (f:=93) rfl ?_);refine goesL_ (some 69) rfl rfl Try.func93 (by kernel_rfl) rfl #[.pointer (some ⟨gl,0,none⟩),.pointer (some ⟨r' (st.op.length+1),0,none⟩)] rfl (by (try simp only [map_toArray,map_cons,map_nil]);first|done|rfl) ?_;(with_reducible refine (list_Remove.calls gl r' (st.op++s.op.drop j) st.op.length _ HS12.out.l HLO.out.1 HLO.out.2).mono ?_);rintro e w23 ⟨rfl,hl,hkp,hbl⟩;refine ⟨_,rfl,?_⟩;have HL13:=zzm hl;have HK13:=zzm hkp;have HB13:=zzm (hbl w.heap.size HS12.out.geL);have BG13:=zzm (kept_at (m:=0) HS12.out.l hkp BG12.out (by decide) (by decide));clear hl hkp hbl));go_roundg (gk - 1)
          case measure=>have h1:=hNX.out.2.2.2.2;have h2:=HJ.out;omega
          case rel=>
           obtain ⟨hnx,hst2,hdrop,hxn_,hjk⟩:=hNX.out;have hj:=HJ.out;have hf:fin1 l0 k st x=⟨st.ws.set x 2,st.bs.set x (k:Int),st.op⟩:=by unfold fin1;rw [if_pos (by rw [← HBE.out];exact HXE.out),← HBE.out,HTL.out];rfl
           have her:(st.op++s.op.drop j).eraseIdx st.op.length=st.op++s.op.drop (j+1):=by rw [hdrop];simp [List.eraseIdx_append_of_length_le]
           have hlen:(st.op++s.op.drop j).length=st.op.length+(s.op.length - j):=by simp
           have hEV:=HEV2.out;have hgl:=HS12.out.geL;have hll:=HL13.out;rw [her] at hll;refine ⟨j+1,rRem r' st.op.length,_,by omega,hnx.symm,?_,?_,BG13⟩
           ·rw [hf,hEV,hlen]
            unfold rRem;rw [if_neg (show ¬ st.op.length+1≤st.op.length by omega)];by_cases hj2:j+1 < s.op.length
            ·rw [if_pos (show st.op.length+1 < st.op.length+(s.op.length - j) by omega),if_pos hj2]
            ·rw [if_neg (show ¬ st.op.length+1 < st.op.length+(s.op.length - j) by omega),if_neg hj2]
           ·rw [hf]
            refine ⟨HS12.out.list hll HK13.out HB13.out (fun i hi=>?_) ?_ (fun y hy=>?_)⟩
            ·have hi2:i+1≤(st.op++s.op.drop j).length:=by rw [hlen];simp at hi;omega
             unfold rRem;split
             ·exact hgl i (by simp only;omega)
             ·exact hgl (i+1) hi2
            ·have:=HS12.out.ok.lo;simp only [hlen] at this;simp;omega
            ·refine HS12.out.ok.op y ?_
             rw [show (st.op++s.op.drop j)=st.op++x::s.op.drop (j+1) by rw [hdrop]];rcases List.mem_append.1 hy with h|h
             ·exact List.mem_append_left _ h
             ·exact List.mem_append_right _ (List.mem_cons_of_mem _ h)
        ·have hxeb:((rd_T27 l0 (x:Int)).f2==b.f2)=false:=by simpa using hxe
         have HXE:=zzm hxe;clear hxe;go_upto_region 12 with (((with_reducible refine gate_callee (f:=91) rfl ?_);refine goesL_ (some 38) rfl rfl Try.func91 (by kernel_rfl) rfl #[.pointer (some ⟨r' (st.op.length+1),0,none⟩)] rfl (by (try simp only [map_toArray,map_cons,map_nil]);first|done|rfl) ?_;(with_reducible refine (list_Next.calls gl r' (st.op++s.op.drop j) _ HS.out.l st.op.length HLO.out.2).mono ?_);rintro e w18 ⟨he,hd⟩;obtain ⟨ev2,rfl⟩:∃ ev,e = .returned ev:=⟨_,he⟩;have HEV2:=zzm (Ending.returned.inj he);clear he;refine ⟨_,rfl,?_⟩;obtain ⟨m2,rfl⟩:=hd.out;clear hd));go_region;obtain ⟨HS8,BG8⟩:=HP8.out _ (zzb (Below.refl _ _) (m2+1));clear hvc ha2 d2 HS BG HP8 hta hxeb;generalize wr.drewN (m2+1)=w18 at HS8 BG8 ⊢;go_wp2;go_roundg (gk - 1)
         case measure=>have h1:=hNX.out.2.2.2.2;have h2:=HJ.out;omega
         case rel=>
          obtain ⟨hnx,hst2,hdrop,hxn_,hjk⟩:=hNX.out;have hj:=HJ.out;have hf:fin1 l0 k st x=⟨st.ws,st.bs,st.op ++ [x]⟩:=by unfold fin1;rw [if_neg (by rw [← HBE.out];exact HXE.out)]
          have hlen:(st.op++s.op.drop j).length=st.op.length+(s.op.length - j):=by simp
          have hEV:=HEV2.out;refine ⟨j+1,r',_,by omega,hnx.symm,?_,?_,BG8⟩
          ·rw [hf,hEV,hlen]
           simp only [List.length_append,List.length_singleton];by_cases hj2:j+1 < s.op.length
           ·rw [if_pos (show st.op.length+1 < st.op.length+(s.op.length - j) by omega),if_pos hj2]
           ·rw [if_neg (show ¬ st.op.length+1 < st.op.length+(s.op.length - j) by omega),if_neg hj2]
          ·rw [hf]
           have:=HS8.out;rw [hdrop] at this;refine ⟨?_⟩;simpa using this
       ·have hjl:j=s.op.length:=by omega
        have hfull:st=s.op.foldl (fin1 l0 k) ⟨s.ws.set k 3,s.bs.set k (-1),[]⟩:=by rw [hst,hjl,List.take_length]
        have HFU:=zzm hfull;have HS':=HS.out;rw [hjl,List.drop_length,List.append_nil] at HS';have HSE:=zzm HS';rw [if_neg hj];clear hst hfull HS' HS hjl hj;go_wp2;go_roundw
        case rel=>exact ⟨k+1,r',by omega,by go_num,⟨by rw [HQ.out,← HFU.out];exact HSE.out⟩⟩
        case measure=>simp [intOf];omega
   ·have hk2:k=l0.length:=by omega
    subst hk2;have hc0:=HS.out.f0;have hc1:=HS.out.f1;have hr0:wr.cell? ⟨g2,0,none⟩=some (.slice none 0 0):=(zzk HS.out.res 0).trans rfl;have hr1:wr.cell? ⟨g2,1,none⟩=some (.slice none 0 0):=(zzk HS.out.res 1).trans rfl;have fr0:=zzl HS.out.res 0;have fr1:=zzl HS.out.res 1;have h23:=HS.out.n23;go_wp2;refine bodyPost_ret (results_cell_row rfl _ _ g2 72 #[.slice (some ⟨gW,0,none⟩) l0.length l0.length,.slice (some ⟨gB,0,none⟩) l0.length l0.length] (0,0) _ rfl (zzi (zzi HS.out.res 0 _ rfl) 1 _ rfl) Try.underlying72 rfl (by kernel_rfl)) rfl ?_;have hH:=HS.out;have hmx:l0.length≤maxLen:=by have:=HN.out;unfold maxLen;omega
    have r1:=ints_R (e:=74) (zzj (p:=⟨g2,1,none⟩) (zzj (p:=⟨g2,0,none⟩) hH.ww (blk_ne hH.ww hH.res (by decide)) (.slice (some ⟨gW,0,none⟩) l0.length l0.length)) (blk_ne hH.ww hH.res (by decide)) (.slice (some ⟨gB,0,none⟩) l0.length l0.length)) hH.geW (by rw [hH.ok.lw];exact hmx);have r2:=ints_R (e:=3) (zzj (p:=⟨g2,1,none⟩) (zzj (p:=⟨g2,0,none⟩) hH.bb (blk_ne hH.bb hH.res (by decide)) (.slice (some ⟨gW,0,none⟩) l0.length l0.length)) (blk_ne hH.bb hH.res (by decide)) (.slice (some ⟨gB,0,none⟩) l0.length l0.length)) hH.geB (by rw [hH.ok.lb];exact hmx);rw [hH.ok.lw] at r1;rw [hH.ok.lb] at r2;exact ⟨_,_,rfl,r1,r2,zzd (zzd hH.below hH.ge2) hH.ge2⟩
def fatesFit (l0:List S27):Bool:=decide (l0.length≤1000000)&&l0.all fun b=>decide (0 < b.f5.length)
def impl_fatesOf.f (l0:List S27):Option (List Int×List Int):=if fatesFit l0=true then some ((fatesTo l0 l0.length).ws,(fatesTo l0 l0.length).bs) else none
theorem impl_fatesOf.calls (A0:Option Addr) (c0:Nat) (l0:List (S27)) (r1:List Int) (r2:List Int) (w:World) (hr0:Kd.C k27 w A0 l0.length l0) (hc0:l0.length≤c0) (h:impl_fatesOf.f l0=some (r1,r2)) :
  Calls Try.prog 62 #[.slice A0 l0.length c0] w fun e w'=>∃ v0_ v1_:Value,e = .returned (.agg #[v0_,v1_])∧Kd.R (Kd.int .i64) 74 w' w.heap.size (fun _=>True) v0_ r1∧Kd.R (Kd.int .i64) 3 w' w.heap.size (fun _=>True) v1_ r2∧Below w.heap.size w w':=by
 unfold impl_fatesOf.f at h;split at h
 ·rename_i hf
  obtain ⟨rfl,rfl⟩:=Prod.mk.inj (Option.some.inj h);unfold fatesFit at hf;rw [Bool.and_eq_true,decide_eq_true_eq,List.all_eq_true] at hf;refine impl_fatesOf.core A0 c0 l0 w hr0 hc0 hf.1 (fun j hj=>?_);have h2:rd_T27 l0 (j:Int)=l0[j]:=by simp [rd_T27,List.getD_eq_getElem?_getD,List.getElem?_eq_getElem hj]
  rw [h2];simpa using hf.2 _ (List.getElem_mem hj)
 ·cases h
theorem field_fates (v1 v2:Value) (W:World):(Instr.field 72 (.agg #[v1,v2]) 0).run Try.prog W = .ok v1 W:=by
 have hu:=Try.underlying72;simp [Instr.field,go_sem,asAgg]
end Go.Proofs.Yticpnjhkdfdkkaa.T
