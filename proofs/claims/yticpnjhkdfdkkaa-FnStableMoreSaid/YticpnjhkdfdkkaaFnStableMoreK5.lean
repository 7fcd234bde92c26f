/- FnStableMore, part 6 of 6: merged by wip/tools/pack2.py out of the texts that the row reaches; the pure statement is the session's own. -/
import Derived.Test.YticpnjhkdfdkkaaRows
import Derived.WalkKit
import Derived.ProofKit
import Derived.OpenShut
import Derived.ShutString
import Derived.ChangeOld
import Derived.Below
import Derived.SizedLaws
import Derived.Test.YticpnjhkdfdkkaaFnStableMoreK4
namespace Go.Proofs.Yticpnjhkdfdkkaa.T
open Go.RowKit Go.Proofs.YticpnjhkdfdkkaaW.PrintWords Go.Proofs.YticpnjhkdfdkkaaW.PrintLast Go.Proofs.YticpnjhkdfdkkaaW.PrintMore
attribute [local go_sem] max2_int max_two
set_option linter.unusedVariables false
set_option linter.unusedSimpArgs false
mutual
def impl_LogAppend.j0 : Nat → List (S27) → Bool → Bool → Bool → Int → Int → Int → List (S34) → Option ((List (S27)) × Bool)
 | 0, _, _, _, _, _, _, _, _ => none
 | k + 1, x0, x16, x366000, x366001, x366002, x366003, x366004, x366005 => if x16 = true then (some (([] : List (S27)), false)) else ((impl_ReadEnd.f k x0).bind fun t368 => ((impl_Batch_copyOf.f k x366000 x366001 x366002 x366003 x366004 x366005).bind fun bt369 => (impl_LogAppend.l0 k x0 t368 (bt369.2.2.2.2.2.length : Int) 0 bt369.1 bt369.2.1 bt369.2.2.1 bt369.2.2.2.1 bt369.2.2.2.2.1 bt369.2.2.2.2.2)))
def impl_LogAppend.l0 : Nat → List (S27) → Int → Int → Int → Bool → Bool → Int → Int → Int → List (S34) → Option ((List (S27)) × Bool)
 | 0, _, _, _, _, _, _, _, _, _, _ => none
 | k + 1, x0, x6, x23, x24, x366000, x366001, x366002, x366003, x366004, x366005 => if x24 < x23 then (if 0 ≤ x24 then (if x24 < (x366005.length : Int) then (impl_LogAppend.l0 k x0 x6 x23 (wrap64 (x24 + 1)) x366000 x366001 x366002 x366003 x366004 (x366005.set (x24 : Int).toNat (⟨wrap64 (x6 + x24), (rd_T34 x366005 x24).f1, (rd_T34 x366005 x24).f2, (rd_T34 x366005 x24).f3, (rd_T34 x366005 x24).f4, (rd_T34 x366005 x24).f5⟩ : S34))) else (none)) else (none)) else ((impl_copyBatches.f k x0).bind fun t378 => ((some (([(⟨x366000, x366001, x366002, x366003, x366004, x366005⟩ : S27)] : List (S27)) : List (S27))).bind fun y381 => (if t378.length + y381.length < 2513169434916 then ((some (t378 ++ y381 : List (S27))).bind fun y384 => ((impl_LogValid.f k y384).bind fun t387 => (if t387 = true then (some (y384, true)) else (some (([] : List (S27)), false))))) else (none))))
end
def impl_LogAppend.f (k : Nat) (l0 : List (S27)) (a1_0 : Bool) (a1_1 : Bool) (a1_2 : Int) (a1_3 : Int) (a1_4 : Int) (l1_5 : List (S34)) : Option ((List (S27)) × Bool) := (impl_LogValid.f k l0).bind fun t366 => (if t366 = true then ((impl_BatchValid.f k a1_0 a1_1 a1_2 a1_3 a1_4 l1_5).bind fun t367 => (impl_LogAppend.j0 k l0 (!t367) a1_0 a1_1 a1_2 a1_3 a1_4 l1_5)) else (impl_LogAppend.j0 k l0 true a1_0 a1_1 a1_2 a1_3 a1_4 l1_5))
set_option maxHeartbeats 8000000 in
set_option maxRecDepth 100000 in
theorem impl_LogAppend.calls (k : Nat) (A0 : Option Addr) (c0 : Nat) (l0 : List (S27)) (a1_0 : Bool) (a1_1 : Bool) (a1_2 : Int) (a1_3 : Int) (a1_4 : Int) (A1_5 : Option Addr) (c1_5 : Nat) (l1_5 : List (S34)) (r1 : List (S27)) (r2 : Bool) (w : World) (hr0 : Kd.C k27 w A0 l0.length l0) (hc0 : l0.length ≤ c0) (hr1_5 : Kd.C k34 w A1_5 l1_5.length l1_5) (hc1_5 : l1_5.length ≤ c1_5) (h : impl_LogAppend.f k l0 a1_0 a1_1 a1_2 a1_3 a1_4 l1_5 = some (r1, r2)) :
  Calls Try.prog 35 #[.slice A0 l0.length c0, .agg #[.bool a1_0, .bool a1_1, .int .i64 a1_2, .int .i64 a1_3, .int .i64 a1_4, .slice A1_5 l1_5.length c1_5]] w fun e w' => ∃ v0_ : Value, e = .returned (.tuple #[v0_, .bool r2]) ∧ Kd.N k27 27 w' w.heap.size (fun k_ => (w.heap.size ≤ k_)) v0_ r1 ∧ Below w.heap.size w w' := by
 have hu27 := Try.underlying27; have HR0 := zzm hr0; have HC0 := zzm hc0; clear hr0 hc0; have HR1_5 := zzm hr1_5; have HC1_5 := zzm hc1_5; clear hr1_5 hc1_5; have HB := zzm (Below.refl w.heap.size w); have H : ((impl_LogValid.f k l0).bind fun t366 => (if t366 = true then ((impl_BatchValid.f k a1_0 a1_1 a1_2 a1_3 a1_4 l1_5).bind fun t367 => (impl_LogAppend.j0 k l0 (!t367) a1_0 a1_1 a1_2 a1_3 a1_4 l1_5)) else (impl_LogAppend.j0 k l0 true a1_0 a1_1 a1_2 a1_3 a1_4 l1_5))) = some (r1, r2) := h; clear h; have HC3 := zzm H; clear H; go_enter Try.func35, Try.ntmps35; go_upto_region 1 with (first | ((with_reducible refine gate_dst (N := 3) rfl ?_); refine box_event ?hg (N := 3) ?hd (cs := #[.bool a1_0, .bool a1_1, .int .i64 a1_2, .int .i64 a1_3, .int .i64 a1_4, .slice A1_5 l1_5.length c1_5]) (t := 27) ?hr ?_; (case hd => rfl); (case hg => rfl); (case hr => first | (go_simp; done) | (go_simp; rfl)); intro gb365 hg w4 hbox hb; have n0_ := zzm (zzp zzh1 hb); have n1_ := zzm (hbox); have n2_ := zzm ((by rw [hg]; exact (zzo zzh1) : w.heap.size ≤ gb365)); have n3_ := zzm ((by rw [hg]; exact (zzo zzh1) : w.heap.size ≤ gb365)); clear HB; have HB := n0_; have BK365 := n1_; have GW365 := n2_; have GE365 := n3_; clear n0_ n1_ n2_ n3_ hb hbox hg)); (try simp only [Act.put, zzq, zzr, zzs]); go_cut [16] (fun v16 wc => ∃ (kq : Nat) (x16_2 : Bool), v16 = .bool x16_2 ∧ Aside0 (impl_LogAppend.j0 kq l0 x16_2 a1_0 a1_1 a1_2 a1_3 a1_4 l1_5 = some (r1, r2)) ∧ Aside0 (kq ≤ k) ∧ Aside0 (wc.heap[gb365]? = some (.cells #[.bool a1_0, .bool a1_1, .int .i64 a1_2, .int .i64 a1_3, .int .i64 a1_4, (.slice A1_5 l1_5.length c1_5)] 27 (0, 0))) ∧ Aside0 (Below w.heap.size w wc))
 case first =>
  have H := HC3.out; clear HC3; replace H := Option.bind_eq_some_iff.mp H; obtain ⟨t366, A50, H⟩ := H; replace H : (if t366 = true then ((impl_BatchValid.f k a1_0 a1_1 a1_2 a1_3 a1_4 l1_5).bind fun t367 => (impl_LogAppend.j0 k l0 (!t367) a1_0 a1_1 a1_2 a1_3 a1_4 l1_5)) else (impl_LogAppend.j0 k l0 true a1_0 a1_1 a1_2 a1_3 a1_4 l1_5)) = some (r1, r2) := H; have A5 := zzm A50; clear A50; by_cases c6 : t366 = true
  ·
   subst c6; have H1 : ((impl_BatchValid.f k a1_0 a1_1 a1_2 a1_3 a1_4 l1_5).bind fun t367 => (impl_LogAppend.j0 k l0 (!t367) a1_0 a1_1 a1_2 a1_3 a1_4 l1_5)) = some (r1, r2) := by rw [if_pos rfl] at H; exact H
   clear H; have H := H1; clear H1; replace H := Option.bind_eq_some_iff.mp H; obtain ⟨t367, A70, H⟩ := H; replace H : (impl_LogAppend.j0 k l0 (!t367) a1_0 a1_1 a1_2 a1_3 a1_4 l1_5) = some (r1, r2) := H; have A7 := zzm A70; clear A70; have H' := zzm H; clear H; go_wp2_with (first | ((with_reducible refine gate_callee (f := 61) rfl ?_); refine goesL_ (some 10) rfl rfl Try.func61 (by kernel_rfl) rfl #[.slice A0 l0.length c0] rfl (by (try simp only [List.map_toArray, List.map_cons, List.map_nil]); first | done | rfl | (simp only [List.length_drop, List.length_take]; rfl)) ?_; (with_reducible refine (impl_LogValid.calls k _ _ l0 true _ ?side1 ?side2 A5.out).mono ?_); (case side1 => repeat (first | exact (Kd.C_below HR0.out HB.out) | (with_reducible refine Kd.C_alloc ?_ _) | (with_reducible refine Kd.C_drewN ?_ _) | (with_reducible refine Kd.C_drew ?_))); (case side2 => exact HC0.out); rintro e w8 ⟨rfl, hb⟩; refine ⟨_, rfl, ?_⟩; have n0_ := zzm (zzh (g := gb365) (o := .cells #[.bool a1_0, .bool a1_1, .int .i64 a1_2, .int .i64 a1_3, .int .i64 a1_4, .slice A1_5 l1_5.length c1_5] 27 (0, 0)) (by (with_reducible repeat (first | apply zzf | apply zzg | apply zze)); exact BK365.out) hb); have n1_ := zzm (zzp (by repeat (first | (with_reducible first | exact HB.out | apply zza | apply zzb | apply zzc | refine zzd ?_ GE365.out) | exact HB.out)) hb); clear BK365 HB; have BK365 := n0_; have HB := n1_; clear n0_ n1_; (try clear hb); (try clear hb2); (try clear hk); (try clear hi); obtain ⟨hcz9_0, hcz9_1, hcz9_2, hcz9_3, hcz9_4, hcz9_5, hfz9_0, hfz9_1, hfz9_2, hfz9_3, hfz9_4, hfz9_5⟩ := zzc6 BK365.out) | (go_at_call 22; (with_reducible refine (impl_BatchValid.calls k a1_0 a1_1 a1_2 a1_3 a1_4 _ _ l1_5 t367 _ ?side1 ?side2 A7.out).mono ?_); (case side1 => repeat (first | exact (Kd.C_below HR1_5.out HB.out) | (with_reducible refine Kd.C_alloc ?_ _) | (with_reducible refine Kd.C_drewN ?_ _) | (with_reducible refine Kd.C_drew ?_))); (case side2 => exact HC1_5.out); rintro e w10 ⟨rfl, hb⟩; have n0_ := zzm (zzh (g := gb365) (o := .cells #[.bool a1_0, .bool a1_1, .int .i64 a1_2, .int .i64 a1_3, .int .i64 a1_4, .slice A1_5 l1_5.length c1_5] 27 (0, 0)) (by (with_reducible repeat (first | apply zzf | apply zzg | apply zze)); exact BK365.out) hb); have n1_ := zzm (zzp (by repeat (first | (with_reducible first | exact HB.out | apply zza | apply zzb | apply zzc | refine zzd ?_ GE365.out) | exact HB.out)) hb); clear BK365 HB; have BK365 := n0_; have HB := n1_; clear n0_ n1_; (try clear hb); (try clear hb2); (try clear hk); (try clear hi))); go_meet
   case rel => exact ⟨_, (!t367), (by first | rfl | (simp; done) | (simp [*]; done)), H', ⟨by first | omega | exact Nat.le_refl _⟩, ⟨by (with_reducible repeat (first | apply zzf | apply zzg | apply zze)); exact BK365.out⟩, ⟨by repeat (first | (with_reducible first | exact HB.out | apply zza | apply zzb | apply zzc | refine zzd ?_ GE365.out) | exact HB.out)⟩⟩
  ·
   replace c6 := Bool.eq_false_iff.mpr c6; subst c6; have H1 : (impl_LogAppend.j0 k l0 true a1_0 a1_1 a1_2 a1_3 a1_4 l1_5) = some (r1, r2) := by rw [if_neg (show ¬ (false = true) by decide)] at H; exact H
   clear H; have H := H1; clear H1; have H' := zzm H; clear H; go_wp2_with (first | ((with_reducible refine gate_callee (f := 61) rfl ?_); refine goesL_ (some 10) rfl rfl Try.func61 (by kernel_rfl) rfl #[.slice A0 l0.length c0] rfl (by (try simp only [List.map_toArray, List.map_cons, List.map_nil]); first | done | rfl | (simp only [List.length_drop, List.length_take]; rfl)) ?_; (with_reducible refine (impl_LogValid.calls k _ _ l0 false _ ?side1 ?side2 A5.out).mono ?_); (case side1 => repeat (first | exact (Kd.C_below HR0.out HB.out) | (with_reducible refine Kd.C_alloc ?_ _) | (with_reducible refine Kd.C_drewN ?_ _) | (with_reducible refine Kd.C_drew ?_))); (case side2 => exact HC0.out); rintro e w11 ⟨rfl, hb⟩; refine ⟨_, rfl, ?_⟩; have n0_ := zzm (zzh (g := gb365) (o := .cells #[.bool a1_0, .bool a1_1, .int .i64 a1_2, .int .i64 a1_3, .int .i64 a1_4, .slice A1_5 l1_5.length c1_5] 27 (0, 0)) (by (with_reducible repeat (first | apply zzf | apply zzg | apply zze)); exact BK365.out) hb); have n1_ := zzm (zzp (by repeat (first | (with_reducible first | exact HB.out | apply zza | apply zzb | apply zzc | refine zzd ?_ GE365.out) | exact HB.out)) hb); clear BK365 HB; have BK365 := n0_; have HB := n1_; clear n0_ n1_; (try clear hb); (try clear hb2); (try clear hk); (try clear hi))); go_meet
   case rel => exact ⟨_, (true), (by first | rfl | (simp; done) | (simp [*]; done)), H', ⟨by first | omega | exact Nat.le_refl _⟩, ⟨by (with_reducible repeat (first | apply zzf | apply zzg | apply zze)); exact BK365.out⟩, ⟨by repeat (first | (with_reducible first | exact HB.out | apply zza | apply zzb | apply zzc | refine zzd ?_ GE365.out) | exact HB.out)⟩⟩
 case rest =>
  clear HC3; try clear c1
  try clear p2
  try clear c3
  try clear c6
  try clear hcz9_0
  try clear hcz9_1
  try clear hcz9_2
  try clear hcz9_3
  try clear hcz9_4
  try clear hcz9_5
  try clear hfz9_0
  try clear hfz9_1
  try clear hfz9_2
  try clear hfz9_3
  try clear hfz9_4
  try clear hfz9_5
  obtain ⟨kq, x16_2, rfl, HA, HJ2, BK365, HB⟩ := hcut; cases kq with
  | zero => exact absurd HA.out (by simp [impl_LogAppend.j0])
  | succ kj2 =>
   have H := HA.out; clear HA; simp only [impl_LogAppend.j0] at H; by_cases c12 : x16_2 = true
   ·
    subst c12; have H1 : (some (([] : List (S27)), false)) = some (r1, r2) := by rw [if_pos rfl] at H; exact H
    clear H; have H := H1; clear H1; simp only [Option.some.injEq, Prod.mk.injEq] at H; obtain ⟨rfl, rfl⟩ := H; go_wp2; go_ret2; exact ⟨_, by first | rfl | (simp [errW_none, errW_some] <;> rfl) | (simp [*, errW_none, errW_some] <;> rfl), by first | exact Kd.R_nil _ _ _ _ _ | exact Kd.N_nil _ _ _ _ _ | exact Kd.V_nil _ _ _ _ _ | exact Kd.Q_nil _ _ _ _ _ | exact Kd.S_nil _ _ _ _ _, by repeat (first | (with_reducible first | exact HB.out | apply zza | apply zzb | apply zzc | refine zzd ?_ GE365.out) | exact HB.out)⟩
   ·
    replace c12 := Bool.eq_false_iff.mpr c12; subst c12; have H1 : ((impl_ReadEnd.f kj2 l0).bind fun t368 => ((impl_Batch_copyOf.f kj2 a1_0 a1_1 a1_2 a1_3 a1_4 l1_5).bind fun bt369 => (impl_LogAppend.l0 kj2 l0 t368 (bt369.2.2.2.2.2.length : Int) 0 bt369.1 bt369.2.1 bt369.2.2.1 bt369.2.2.2.1 bt369.2.2.2.2.1 bt369.2.2.2.2.2))) = some (r1, r2) := by rw [if_neg (show ¬ (false = true) by decide)] at H; exact H
    clear H; have H := H1; clear H1; replace H := Option.bind_eq_some_iff.mp H; obtain ⟨t368, A130, H⟩ := H; replace H : ((impl_Batch_copyOf.f kj2 a1_0 a1_1 a1_2 a1_3 a1_4 l1_5).bind fun bt369 => (impl_LogAppend.l0 kj2 l0 t368 (bt369.2.2.2.2.2.length : Int) 0 bt369.1 bt369.2.1 bt369.2.2.1 bt369.2.2.2.1 bt369.2.2.2.2.1 bt369.2.2.2.2.2)) = some (r1, r2) := H; have A13 := zzm A130; clear A130; replace H := Option.bind_eq_some_iff.mp H; obtain ⟨⟨t369, t370, t371, t372, t373, t374⟩, A140, H⟩ := H; replace H : (impl_LogAppend.l0 kj2 l0 t368 (t374.length : Int) 0 t369 t370 t371 t372 t373 t374) = some (r1, r2) := H; have A14 := zzm A140; clear A140; have H' := zzm H; clear H; go_wp2_with (first | ((with_reducible refine gate_callee (f := 30) rfl ?_); refine goesL_ (some 18) rfl rfl Try.func30 (by kernel_rfl) rfl #[.slice A0 l0.length c0] rfl (by (try simp only [List.map_toArray, List.map_cons, List.map_nil]); first | done | rfl | (simp only [List.length_drop, List.length_take]; rfl)) ?_; (with_reducible refine (impl_ReadEnd.calls kj2 _ _ l0 t368 _ ?side1 ?side2 A13.out).mono ?_); (case side1 => repeat (first | exact (Kd.C_below HR0.out HB.out) | (with_reducible refine Kd.C_alloc ?_ _) | (with_reducible refine Kd.C_drewN ?_ _) | (with_reducible refine Kd.C_drew ?_))); (case side2 => exact HC0.out); rintro e w15 ⟨rfl, hb⟩; refine ⟨_, rfl, ?_⟩; have n0_ := zzm (zzh (g := gb365) (o := .cells #[.bool a1_0, .bool a1_1, .int .i64 a1_2, .int .i64 a1_3, .int .i64 a1_4, .slice A1_5 l1_5.length c1_5] 27 (0, 0)) (by (with_reducible repeat (first | apply zzf | apply zzg | apply zze)); exact BK365.out) hb); have n1_ := zzm (zzp (by repeat (first | (with_reducible first | exact HB.out | apply zza | apply zzb | apply zzc | refine zzd ?_ GE365.out) | exact HB.out)) hb); clear BK365 HB; have BK365 := n0_; have HB := n1_; clear n0_ n1_; (try clear hb); (try clear hb2); (try clear hk); (try clear hi); obtain ⟨hcz16_0, hcz16_1, hcz16_2, hcz16_3, hcz16_4, hcz16_5, hfz16_0, hfz16_1, hfz16_2, hfz16_3, hfz16_4, hfz16_5⟩ := zzc6 BK365.out) | ((with_reducible refine gate_callee (f := 70) rfl ?_); refine goesL_ (some 20) rfl rfl Try.func70 (by kernel_rfl) rfl #[.agg #[.bool a1_0, .bool a1_1, .int .i64 a1_2, .int .i64 a1_3, .int .i64 a1_4, .slice A1_5 l1_5.length c1_5]] rfl (by (try simp only [List.map_toArray, List.map_cons, List.map_nil]); first | done | rfl | (simp only [List.length_drop, List.length_take]; rfl)) ?_; (with_reducible refine (impl_Batch_copyOf.calls kj2 a1_0 a1_1 a1_2 a1_3 a1_4 _ _ l1_5 t369 t370 t371 t372 t373 t374 _ ?side1 ?side2 A14.out).mono ?_); (case side1 => repeat (first | exact (Kd.C_below HR1_5.out HB.out) | (with_reducible refine Kd.C_alloc ?_ _) | (with_reducible refine Kd.C_drewN ?_ _) | (with_reducible refine Kd.C_drew ?_))); (case side2 => exact HC1_5.out); rintro e w17 ⟨v375, rfl, ho0, hb⟩; refine ⟨_, rfl, ?_⟩; have n0_ := zzm (Kd.N_lower (Kd.N_mono (ok' := fun k_ => (w.heap.size ≤ k_) ∧ k_ ≠ gb365) (Kd.S_N (Kd.S_bound ho0)) (fun k_ hk_ => ⟨(Nat.le_trans (zzo (by repeat (first | (with_reducible first | exact HB.out | apply zza | apply zzb | apply zzc | refine zzd ?_ GE365.out) | exact HB.out))) hk_.2.1), (Kd.freshB (g := gb365) (o := .cells #[.bool a1_0, .bool a1_1, .int .i64 a1_2, .int .i64 a1_3, .int .i64 a1_4, .slice A1_5 l1_5.length c1_5] 27 (0, 0)) (by (with_reducible repeat (first | apply zzf | apply zzg | apply zze)); exact BK365.out) k_ hk_.2.1)⟩)) (zzo (by repeat (first | (with_reducible first | exact HB.out | apply zza | apply zzb | apply zzc | refine zzd ?_ GE365.out) | exact HB.out)))); have n1_ := zzm (zzh (g := gb365) (o := .cells #[.bool a1_0, .bool a1_1, .int .i64 a1_2, .int .i64 a1_3, .int .i64 a1_4, .slice A1_5 l1_5.length c1_5] 27 (0, 0)) (by (with_reducible repeat (first | apply zzf | apply zzg | apply zze)); exact BK365.out) hb); have n2_ := zzm (zzp (by repeat (first | (with_reducible first | exact HB.out | apply zza | apply zzb | apply zzc | refine zzd ?_ GE365.out) | exact HB.out)) hb); clear BK365 HB; have HO376 := n0_; have BK365 := n1_; have HB := n2_; clear n0_ n1_ n2_; (try clear hb); (try clear hb2); (try clear hk); (try clear hi); (try clear ho0); obtain ⟨hcz18_0, hcz18_1, hcz18_2, hcz18_3, hcz18_4, hcz18_5, hfz18_0, hfz18_1, hfz18_2, hfz18_3, hfz18_4, hfz18_5⟩ := zzc6 BK365.out; obtain ⟨Ao19, co19, eo19⟩ := Kd.N_slice HO376.out; subst eo19)); go_loopg [24] kj2 (fun kq v24 w' => ∃ (x24_2 : Int) (x366005_2 : List (S34)) (u366005 : Value), v24 = .int .i64 x24_2 ∧ Aside0 (impl_LogAppend.l0 kq l0 t368 (t374.length : Int) x24_2 t369 t370 t371 t372 t373 x366005_2 = some (r1, r2)) ∧ Aside0 (kq ≤ kj2) ∧ Aside0 (Kd.N k34 34 w' w.heap.size (fun k_ => (w.heap.size ≤ k_) ∧ k_ ≠ gb365) u366005 x366005_2) ∧ Aside0 (w'.heap[gb365]? = some (.cells #[.bool t369, .bool t370, .int .i64 t371, .int .i64 t372, .int .i64 t373, u366005] 27 (0, 0))) ∧ Aside0 (Below w.heap.size w w'))
    case atStart => exact ⟨(0), (t374), (.slice Ao19 t374.length co19), (by first | rfl | (simp; done) | (simp [*]; done)), H', ⟨Nat.le_refl _⟩, ⟨by (with_reducible repeat (first | apply Kd.N_alloc | apply Kd.N_drewN | apply Kd.N_drew)); exact Kd.N_mono (Kd.N_far (p := ⟨gb365, 5, none⟩) (Kd.N_far (p := ⟨gb365, 4, none⟩) (Kd.N_far (p := ⟨gb365, 3, none⟩) (Kd.N_far (p := ⟨gb365, 2, none⟩) (Kd.N_far (p := ⟨gb365, 1, none⟩) (Kd.N_far (p := ⟨gb365, 0, none⟩) (Kd.N_mono HO376.out (fun k_ hk => (⟨hk, hk.2⟩ : _ ∧ k_ ≠ gb365))) (fun _ hk => hk.2) (.bool t369)) (fun _ hk => hk.2) (.bool t370)) (fun _ hk => hk.2) (.int .i64 t371)) (fun _ hk => hk.2) (.int .i64 t372)) (fun _ hk => hk.2) (.int .i64 t373)) (fun _ hk => hk.2) (.slice Ao19 t374.length co19)) (fun _ hk => ⟨hk.1.1, hk.1.2⟩)⟩, ⟨by (with_reducible repeat (first | apply zzf | apply zzg | apply zze)); refine zzi (cs := #[.bool t369, .bool t370, .int .i64 t371, .int .i64 t372, .int .i64 t373, .slice A1_5 l1_5.length c1_5]) ?_ 5 _ rfl; (with_reducible repeat (first | apply zzf | apply zzg | apply zze)); refine zzi (cs := #[.bool t369, .bool t370, .int .i64 t371, .int .i64 t372, .int .i64 a1_4, .slice A1_5 l1_5.length c1_5]) ?_ 4 _ rfl; (with_reducible repeat (first | apply zzf | apply zzg | apply zze)); refine zzi (cs := #[.bool t369, .bool t370, .int .i64 t371, .int .i64 a1_3, .int .i64 a1_4, .slice A1_5 l1_5.length c1_5]) ?_ 3 _ rfl; (with_reducible repeat (first | apply zzf | apply zzg | apply zze)); refine zzi (cs := #[.bool t369, .bool t370, .int .i64 a1_2, .int .i64 a1_3, .int .i64 a1_4, .slice A1_5 l1_5.length c1_5]) ?_ 2 _ rfl; (with_reducible repeat (first | apply zzf | apply zzg | apply zze)); refine zzi (cs := #[.bool t369, .bool a1_1, .int .i64 a1_2, .int .i64 a1_3, .int .i64 a1_4, .slice A1_5 l1_5.length c1_5]) ?_ 1 _ rfl; (with_reducible repeat (first | apply zzf | apply zzg | apply zze)); refine zzi (cs := #[.bool a1_0, .bool a1_1, .int .i64 a1_2, .int .i64 a1_3, .int .i64 a1_4, .slice A1_5 l1_5.length c1_5]) ?_ 0 _ rfl; (with_reducible repeat (first | apply zzf | apply zzg | apply zze)); exact BK365.out⟩, ⟨by repeat (first | (with_reducible first | exact HB.out | apply zza | apply zzb | apply zzc | refine zzd ?_ GE365.out) | exact HB.out)⟩⟩
    case round =>
     clear H'; try clear c1
     try clear p2
     try clear c3
     try clear c6
     try clear c7
     try clear c12
     try clear hcz16_0
     try clear hcz16_1
     try clear hcz16_2
     try clear hcz16_3
     try clear hcz16_4
     try clear hcz16_5
     try clear hcz18_0
     try clear hcz18_1
     try clear hcz18_2
     try clear hcz18_3
     try clear hcz18_4
     try clear hcz18_5
     try clear hcz9_0
     try clear hcz9_1
     try clear hcz9_2
     try clear hcz9_3
     try clear hcz9_4
     try clear hcz9_5
     try clear hfz16_0
     try clear hfz16_1
     try clear hfz16_2
     try clear hfz16_3
     try clear hfz16_4
     try clear hfz16_5
     try clear hfz18_0
     try clear hfz18_1
     try clear hfz18_2
     try clear hfz18_3
     try clear hfz18_4
     try clear hfz18_5
     try clear hfz9_0
     try clear hfz9_1
     try clear hfz9_2
     try clear hfz9_3
     try clear hfz9_4
     try clear hfz9_5
     try clear p2
     obtain ⟨x24_2, x366005_2, u366005, rfl, HA, HK2, HO_366005, BK365, HB⟩ := hrel; cases gk with
     | zero => exact absurd HA.out (by simp [impl_LogAppend.l0])
     | succ k2 =>
      have H := HA.out; clear HA; simp only [impl_LogAppend.l0] at H; by_cases c20 : x24_2 < (t374.length : Int)
      ·
       rw [if_pos c20] at H; have c20b0 : decide (x24_2 < (t374.length : Int)) = true := decide_eq_true c20; clear c20; by_cases c21 : 0 ≤ x24_2
       ·
        rw [if_pos c21] at H; have c21b0 : decide (0 ≤ x24_2) = true := decide_eq_true c21; clear c21; by_cases c22 : x24_2 < (x366005_2.length : Int)
        ·
         rw [if_pos c22] at H; have c22b0 : decide (x24_2 < (x366005_2.length : Int)) = true := decide_eq_true c22; clear c22; obtain ⟨y377, hy377⟩ : ∃ y_ : List (S34), y_ = (x366005_2.set (x24_2 : Int).toNat (⟨wrap64 (t368 + x24_2), (rd_T34 x366005_2 x24_2).f1, (rd_T34 x366005_2 x24_2).f2, (rd_T34 x366005_2 x24_2).f3, (rd_T34 x366005_2 x24_2).f4, (rd_T34 x366005_2 x24_2).f5⟩ : S34)) := ⟨_, rfl⟩; replace H : (impl_LogAppend.l0 k2 l0 t368 (t374.length : Int) (wrap64 (x24_2 + 1)) t369 t370 t371 t372 t373 y377) = some (r1, r2) := by first | (rw [hy377]; with_reducible exact H) | (have H2_ := (Option.bind_some _ _).symm.trans H; rw [hy377]; with_reducible exact H2_) | (have H2_ := (Option.bind_some _ _).symm.trans H; with_reducible exact H2_) | with_reducible exact H | (rw [hy377]; exact H) | exact H
         have Ny377 := zzm hy377; clear hy377; have H' := zzm H; clear H; obtain ⟨hcz24_0, hcz24_1, hcz24_2, hcz24_3, hcz24_4, hcz24_5, hfz24_0, hfz24_1, hfz24_2, hfz24_3, hfz24_4, hfz24_5⟩ := zzc6 BK365.out; have p23 : 0 ≤ (x24_2 : Int) := zzt; have q23 : (x24_2 : Int) < ((x366005_2.length : Int) : Int) := zzt; obtain ⟨go23, co23, eo23, gb23, gl23, cl23, HG23⟩ := Kd.N_form HO_366005.out (by omega); (first | cases eo23 | (injection eo23 with ea_ en_ ec_; (first | subst ea_ | (injection ea_ with ea_; subst ea_)); subst ec_; clear en_)); have GB23 := zzm gb23; have GG23 := zzm HG23; clear gb23 gl23 HG23; obtain ⟨ce23, hcl23, hM23, hcc23, hfr23⟩ := Kd.N_elem HO_366005.out z34 (x24_2 : Int) p23 q23; obtain ⟨ua23_3, uc23_3, ua23_5, uc23_5, rfl, ul23_3, ge23_3, ul23_5, ge23_5⟩ := k34_openF hM23; have hx23_0 : wr.cell? ⟨go23, (x24_2 : Int).toNat * 6, none⟩ = some (.int .i64 ((rd_T34 x366005_2 x24_2).f0)) := hcc23 0 _ rfl; have hx23_1 : wr.cell? ⟨go23, (x24_2 : Int).toNat * 6 + 1, none⟩ = some (.int .i64 ((rd_T34 x366005_2 x24_2).f1)) := hcc23 1 _ rfl; have hx23_2 : wr.cell? ⟨go23, (x24_2 : Int).toNat * 6 + 2, none⟩ = some (.bool ((rd_T34 x366005_2 x24_2).f2)) := hcc23 2 _ rfl; have hx23_3 : wr.cell? ⟨go23, (x24_2 : Int).toNat * 6 + 3, none⟩ = some (.slice ua23_3 ((rd_T34 x366005_2 x24_2).f3).length uc23_3) := hcc23 3 _ rfl; have hx23_4 : wr.cell? ⟨go23, (x24_2 : Int).toNat * 6 + 4, none⟩ = some (.bool ((rd_T34 x366005_2 x24_2).f4)) := hcc23 4 _ rfl; have hx23_5 : wr.cell? ⟨go23, (x24_2 : Int).toNat * 6 + 5, none⟩ = some (.slice ua23_5 ((rd_T34 x366005_2 x24_2).f5).length uc23_5) := hcc23 5 _ rfl; have hf23_0 : wr.frozen? ⟨go23, (x24_2 : Int).toNat * 6, none⟩ = false := hfr23 0; have hf23_1 : wr.frozen? ⟨go23, (x24_2 : Int).toNat * 6 + 1, none⟩ = false := hfr23 1; have hf23_2 : wr.frozen? ⟨go23, (x24_2 : Int).toNat * 6 + 2, none⟩ = false := hfr23 2; have hf23_3 : wr.frozen? ⟨go23, (x24_2 : Int).toNat * 6 + 3, none⟩ = false := hfr23 3; have hf23_4 : wr.frozen? ⟨go23, (x24_2 : Int).toNat * 6 + 4, none⟩ = false := hfr23 4; have hf23_5 : wr.frozen? ⟨go23, (x24_2 : Int).toNat * 6 + 5, none⟩ = false := hfr23 5; clear hcl23 hcc23 hfr23 hM23; replace p23 := eq_true p23; replace q23 := eq_true q23; have HX25 := zzm (show Kd.N k34 34 wr w.heap.size (fun k_ => (w.heap.size ≤ k_) ∧ k_ ≠ gb365) (.slice (some ⟨go23, 0, none⟩) x366005_2.length co23) x366005_2 from (by (with_reducible repeat (first | apply Kd.N_alloc | apply Kd.N_drewN | apply Kd.N_drew)); exact HO_366005.out)); obtain ⟨ce25, hcl25, hM25, hcc25, hfr25⟩ := Kd.N_elem HX25.out z34 (x24_2 : Int) (zzt) (by have h_ : (x24_2 : Int) < ((x366005_2.length : Int) : Int) := zzt; first | exact h_ | (have e_ := (Kd.N_reads' HO_366005.out).1; omega) | simpa using h_); obtain ⟨ua25_3, uc25_3, ua25_5, uc25_5, rfl, ul25_3, ge25_3, ul25_5, ge25_5⟩ := k34_openF hM25; have HP25 := Kd.N_seg HX25.out (x24_2 : Int) (zzt) (by have h_ : (x24_2 : Int) < ((x366005_2.length : Int) : Int) := zzt; first | exact h_ | (have e_ := (Kd.N_reads' HO_366005.out).1; omega) | simpa using h_) (seg := [.int .i64 (wrap64 (t368 + x24_2))]) (j := 0) hcl25 hcc25 (show 1 ≤ 6 from by decide) (x' := (⟨wrap64 (t368 + x24_2), (rd_T34 x366005_2 x24_2).f1, (rd_T34 x366005_2 x24_2).f2, (rd_T34 x366005_2 x24_2).f3, (rd_T34 x366005_2 x24_2).f4, (rd_T34 x366005_2 x24_2).f5⟩ : S34)) (k34_mkF _ _ (⟨wrap64 (t368 + x24_2), (rd_T34 x366005_2 x24_2).f1, (rd_T34 x366005_2 x24_2).f2, (rd_T34 x366005_2 x24_2).f3, (rd_T34 x366005_2 x24_2).f4, (rd_T34 x366005_2 x24_2).f5⟩ : S34) ul25_3 ge25_3 ul25_5 ge25_5) (fun _ hk => hk); have hx25_0 := hcc25 0 _ rfl; (try simp only [show (k34).sz = 6 from rfl, Nat.mul_one, Nat.add_zero] at hx25_0); have hf25_0 := hfr25 0; (try simp only [show (k34).sz = 6 from rfl, Nat.mul_one, Nat.add_zero] at hf25_0); clear hcl25 hcc25 hfr25 hM25; go_wp2_with (first | ((with_reducible refine gate_store (t := 3) (p := 34) rfl ?_); refine store_event (t := 3) (p := 34) (v := ?vo_w26) (w1 := (wr.setCell ⟨go23, (x24_2 : Int).toNat * 6, none⟩ (.int .i64 (wrap64 (t368 + x24_2))))) ?hg ?ho ?hn ?hr ?_; (case ho => rfl); (case hg => rfl); (case hn => rfl); (case hr => first | (go_simp; done) | (go_simp; rfl)); intro w26 hw; have hg : wr.grownBy w26 (some go23) := (by rw [hw]; exact HP25.2); have hp_ : Kd.N k34 34 w26 w.heap.size (fun k_ => (w.heap.size ≤ k_) ∧ k_ ≠ gb365) (.slice (some ⟨go23, 0, none⟩) x366005_2.length co23) y377 := (by rw [hw, Ny377.out]; exact HP25.1); clear HP25; have n0_ := zzm (hp_); have n1_ := zzm (blk_grown (g := gb365) (o := .cells #[.bool t369, .bool t370, .int .i64 t371, .int .i64 t372, .int .i64 t373, .slice (some ⟨go23, 0, none⟩) x366005_2.length co23] 27 (0, 0)) (by (with_reducible repeat (first | apply zzf | apply zzg | apply zze)); exact BK365.out) hg (Kd.N_ne HO_366005.out BK365.out (by decide))); have n2_ := zzm ((by rw [hw]; exact zzd (HB.out) GB23.out : Below w.heap.size w w26)); clear HO_366005 BK365 HB; have HO_366005 := n0_; have BK365 := n1_; have HB := n2_; clear n0_ n1_ n2_ hg hw hp_)); go_roundg k2
         case measure => have := HJ2.out; have := HK2.out; omega
         case rel => exact ⟨(wrap64 (x24_2 + 1)), (y377), (.slice (some ⟨go23, 0, none⟩) x366005_2.length co23), (by first | rfl | (simp; done) | (simp [*]; done)), H', ⟨by have := HJ2.out; have := HK2.out; omega⟩, ⟨by (with_reducible repeat (first | apply Kd.N_alloc | apply Kd.N_drewN | apply Kd.N_drew)); exact HO_366005.out⟩, ⟨by (with_reducible repeat (first | apply zzf | apply zzg | apply zze)); exact BK365.out⟩, ⟨by repeat (first | (with_reducible first | exact HB.out | apply zza | apply zzb | apply zzc | refine zzd ?_ GE365.out) | exact HB.out)⟩⟩
        ·
         rw [if_neg c22] at H; exact absurd H (by simp)
       ·
        rw [if_neg c21] at H; exact absurd H (by simp)
      ·
       rw [if_neg c20] at H; have c20b0 : decide (x24_2 < (t374.length : Int)) = false := decide_eq_false c20; clear c20; replace H := Option.bind_eq_some_iff.mp H; obtain ⟨t378, A270, H⟩ := H; replace H : ((some (([(⟨t369, t370, t371, t372, t373, x366005_2⟩ : S27)] : List (S27)) : List (S27))).bind fun y381 => (if t378.length + y381.length < 2513169434916 then ((some (t378 ++ y381 : List (S27))).bind fun y384 => ((impl_LogValid.f k2 y384).bind fun t387 => (if t387 = true then (some (y384, true)) else (some (([] : List (S27)), false))))) else (none))) = some (r1, r2) := H; have A27 := zzm A270; clear A270; obtain ⟨y381, hy381⟩ : ∃ y_ : List (S27), y_ = (([(⟨t369, t370, t371, t372, t373, x366005_2⟩ : S27)] : List (S27))) := ⟨_, rfl⟩; replace H : (if t378.length + y381.length < 2513169434916 then ((some (t378 ++ y381 : List (S27))).bind fun y384 => ((impl_LogValid.f k2 y384).bind fun t387 => (if t387 = true then (some (y384, true)) else (some (([] : List (S27)), false))))) else (none)) = some (r1, r2) := by first | (rw [hy381]; with_reducible exact H) | (have H2_ := (Option.bind_some _ _).symm.trans H; rw [hy381]; with_reducible exact H2_) | (have H2_ := (Option.bind_some _ _).symm.trans H; with_reducible exact H2_) | with_reducible exact H | (rw [hy381]; exact H) | exact H
       have Ny381 := zzm hy381; clear hy381; by_cases c28 : t378.length + y381.length < 2513169434916
       ·
        rw [if_pos c28] at H; have LMc28 := zzm c28; clear c28; obtain ⟨y384, hy384⟩ : ∃ y_ : List (S27), y_ = (t378 ++ y381) := ⟨_, rfl⟩; replace H : ((impl_LogValid.f k2 y384).bind fun t387 => (if t387 = true then (some (y384, true)) else (some (([] : List (S27)), false)))) = some (r1, r2) := by first | (rw [hy384]; with_reducible exact H) | (have H2_ := (Option.bind_some _ _).symm.trans H; rw [hy384]; with_reducible exact H2_) | (have H2_ := (Option.bind_some _ _).symm.trans H; with_reducible exact H2_) | with_reducible exact H | (rw [hy384]; exact H) | exact H
        have Ny384 := zzm hy384; clear hy384; replace H := Option.bind_eq_some_iff.mp H; obtain ⟨t387, A290, H⟩ := H; replace H : (if t387 = true then (some (y384, true)) else (some (([] : List (S27)), false))) = some (r1, r2) := H; have A29 := zzm A290; clear A290; by_cases c30 : t387 = true
        ·
         subst c30; have H1 : (some (y384, true)) = some (r1, r2) := by rw [if_pos rfl] at H; exact H
         clear H; have H := H1; clear H1; simp only [Option.some.injEq, Prod.mk.injEq] at H; obtain ⟨rfl, rfl⟩ := H; try go_wp2
         have n0_ := zzm (Kd.N_drew HO_366005.out); have n1_ := zzm (zzg BK365.out); have n2_ := zzm (zzc HB.out); clear HO_366005; clear BK365; clear HB; have HO_366005 := n0_; have BK365 := n1_; have HB := n2_; clear n0_ n1_ n2_; refine start_ (n := 6) (S := fun w' => w'.cell? ⟨gb365, 0, none⟩ = some (.bool t369) ∧ w'.cell? ⟨gb365, 1, none⟩ = some (.bool t370) ∧ w'.cell? ⟨gb365, 2, none⟩ = some (.int .i64 t371) ∧ w'.cell? ⟨gb365, 3, none⟩ = some (.int .i64 t372) ∧ w'.cell? ⟨gb365, 4, none⟩ = some (.int .i64 t373) ∧ w'.cell? ⟨gb365, 5, none⟩ = some (u366005)) (ds := []) (zzB 6 0) (by kernel_rfl) rfl rfl ⟨(zzk BK365.out 0).trans rfl, (zzk BK365.out 1).trans rfl, (zzk BK365.out 2).trans rfl, (zzk BK365.out 3).trans rfl, (zzk BK365.out 4).trans rfl, (zzk BK365.out 5).trans rfl⟩ (fun hHeld => ?_); generalize wr.drew = w31 at HO_366005 BK365 HB hHeld ⊢; refine pure_ (i := 0) (N := some 36) (v := ?_) (a' := ?_) (zzB 6 1) rfl rfl (by kernel_rfl) (fun _ _ _ h => h) (Or.inl ⟨by rfl, ?_⟩) ?_ ?_; rotate_left
         ·
          intro w'; go_simp; with_reducible rfl
         rotate_left
         ·
          simp only [Act.put, zzq, zzr, zzs, i64_w, i32_w]; rfl
         refine take_ (i := 2) (N := some 38) (v := ?_) (a' := ?_) (zzB 6 5) rfl rfl (by kernel_rfl) (fun _ _ _ h => h) (Or.inl ⟨by rfl, ?_⟩) hHeld ?_ ?_; rotate_left
         ·
          rintro w' ⟨s0, s1, s2, s3, s4, s5⟩; go_simp; with_reducible rfl
         rotate_left
         ·
          simp only [Act.put, zzq, zzr, zzs, i64_w, i32_w]; rfl
         obtain ⟨Ao33, co33, eo33⟩ := Kd.N_slice HO_366005.out; subst eo33; refine join_ (σ := Value × Value) 2 (zzB 6 15) (fun s_ => [(37, s_.1), (39, s_.2)]) (fun s_ w' => (w'.cell? ⟨gb365, 0, none⟩ = some (.bool t369) ∧ w'.cell? ⟨gb365, 1, none⟩ = some (.bool t370) ∧ w'.cell? ⟨gb365, 2, none⟩ = some (.int .i64 t371) ∧ w'.cell? ⟨gb365, 3, none⟩ = some (.int .i64 t372) ∧ w'.cell? ⟨gb365, 4, none⟩ = some (.int .i64 t373) ∧ w'.cell? ⟨gb365, 5, none⟩ = some ((.slice Ao33 x366005_2.length co33))) ∧ (Kd.N k27 27 w' w.heap.size (fun k_ => (w.heap.size ≤ k_) ∧ some k_ ≠ (s_.2 : Value).ownBlock ∧ k_ ≠ gb365) s_.1 t378) ∧ (Kd.N k27 27 w' w.heap.size (fun k_ => (w.heap.size ≤ k_) ∧ some k_ ≠ (s_.1 : Value).ownBlock ∧ k_ ≠ gb365) s_.2 y381) ∧ (w'.heap[gb365]? = some (.cells #[.bool t369, .bool t370, .int .i64 t371, .int .i64 t372, .int .i64 t373, .slice Ao33 x366005_2.length co33] 27 (0, 0))) ∧ (Below w.heap.size w w')) ?_ ?_; rotate_left
         ·
          intro hCont; refine two_ (i := 1) (j := 3) (Ni := some 37) (Nj := some 39) (zzB 6 7) (zzB 6 13) rfl rfl rfl rfl (by kernel_rfl) (by decide) (by decide) (fun K hK => ?_) (fun K hK => ?_)
          ·
           skip; refine goes_ Try.func71 (by kernel_rfl) rfl #[.slice A0 l0.length c0] (by rfl) rfl rfl (by (try simp only [List.map_toArray, List.map_cons, List.map_nil]); first | done | rfl | (simp only [List.length_drop, List.length_take]; rfl)) ?_; with_reducible refine (impl_copyBatches.calls k2 _ _ l0 t378 _ ?side1 ?side2 A27.out).mono ?_; (case side1 => repeat (first | exact (Kd.C_below HR0.out HB.out) | (with_reducible refine Kd.C_alloc ?_ _) | (with_reducible refine Kd.C_drewN ?_ _) | (with_reducible refine Kd.C_drew ?_))); (case side2 => exact HC0.out); rintro e w32 ⟨v379, rfl, ho0, hb⟩; refine ⟨_, rfl, ?_⟩; have n0_ := zzm (Kd.N_elder' (by (with_reducible repeat (first | apply Kd.N_alloc | apply Kd.N_drewN | apply Kd.N_drew)); exact HO_366005.out) (by first | exact Kd.N_base ho0 | exact Kd.S_base ho0 | exact Kd.R_base ho0) hb); have n1_ := zzm (Kd.N_lower (Kd.N_mono (ok' := fun k_ => (w.heap.size ≤ k_) ∧ some k_ ≠ (.slice Ao33 x366005_2.length co33 : Value).ownBlock ∧ k_ ≠ gb365) (Kd.R_N (Kd.R_bound ho0)) (fun k_ hk_ => ⟨(Nat.le_trans (zzo (by repeat (first | (with_reducible first | exact HB.out | apply zza | apply zzb | apply zzc | refine zzd ?_ GE365.out) | exact HB.out))) hk_.2.1), (Kd.fresh' (Kd.N_lt (by (with_reducible repeat (first | apply Kd.N_alloc | apply Kd.N_drewN | apply Kd.N_drew)); exact HO_366005.out)) k_ hk_.2.1), (Kd.freshB (g := gb365) (o := .cells #[.bool t369, .bool t370, .int .i64 t371, .int .i64 t372, .int .i64 t373, (.slice Ao33 x366005_2.length co33)] 27 (0, 0)) (by (with_reducible repeat (first | apply zzf | apply zzg | apply zze)); exact BK365.out) k_ hk_.2.1)⟩)) (zzo (by repeat (first | (with_reducible first | exact HB.out | apply zza | apply zzb | apply zzc | refine zzd ?_ GE365.out) | exact HB.out)))); have n2_ := zzm (zzh (g := gb365) (o := .cells #[.bool t369, .bool t370, .int .i64 t371, .int .i64 t372, .int .i64 t373, (.slice Ao33 x366005_2.length co33)] 27 (0, 0)) (by (with_reducible repeat (first | apply zzf | apply zzg | apply zze)); exact BK365.out) hb); have n3_ := zzm (zzp (by repeat (first | (with_reducible first | exact HB.out | apply zza | apply zzb | apply zzc | refine zzd ?_ GE365.out) | exact HB.out)) hb); clear HO_366005; clear BK365; clear HB; have HO_366005 := n0_; have HO380 := n1_; have BK365 := n2_; have HB := n3_; clear n0_ n1_ n2_ n3_; (try clear hb); (try clear hb2); (try clear hk); (try clear hi); (try clear ho0); refine hK.out _ _ ⟨(zzk BK365.out 0).trans rfl, (zzk BK365.out 1).trans rfl, (zzk BK365.out 2).trans rfl, (zzk BK365.out 3).trans rfl, (zzk BK365.out 4).trans rfl, (zzk BK365.out 5).trans rfl⟩ (fun hHeld => ?_); clear hK K; refine norm_ (a' := ?_) ?_ ?_; rotate_left
           ·
            show Act.put _ (some 37) _ = _; simp only [Act.put, zzq, zzr, zzs, i64_w, i32_w]; rfl
           refine one_ (i := 3) (N := some 39) (zzB 6 15) rfl rfl (by kernel_rfl) (by decide) (fun K hK => ?_); refine Kd.N_lit_step k27 _ 27 ?hg (N' := 39) ?hd (xs := ([(⟨t369, t370, t371, t372, t373, x366005_2⟩ : S27)] : List (S27))) (inner := [.bool t369, .bool t370, .int .i64 t371, .int .i64 t372, .int .i64 t373, .slice Ao33 x366005_2.length co33]) (ok := (fun k_ => (w.heap.size ≤ k_) ∧ some k_ ≠ (v379 : Value).ownBlock ∧ k_ ≠ gb365)) (okp := (fun k_ => (w.heap.size ≤ k_) ∧ some k_ ≠ (v379 : Value).ownBlock ∧ k_ ≠ gb365)) ?hr ?hp (fun _ hk => hk) ((show ∀ k_, w32.heap.size ≤ k_ → (fun k_ => (w.heap.size ≤ k_) ∧ some k_ ≠ (v379 : Value).ownBlock ∧ k_ ≠ gb365) k_ from fun k_ hk => ⟨(Nat.le_trans (zzo (by repeat (first | (with_reducible first | exact HB.out | apply zza | apply zzb | apply zzc | refine zzd ?_ GE365.out) | exact HB.out))) hk), Kd.fresh' (Kd.N_lt (by (with_reducible repeat (first | apply Kd.N_alloc | apply Kd.N_drewN | apply Kd.N_drew)); exact HO380.out)) k_ hk, Kd.freshB (g := gb365) (o := .cells #[.bool t369, .bool t370, .int .i64 t371, .int .i64 t372, .int .i64 t373, .slice Ao33 x366005_2.length co33] 27 (0, 0)) (by (with_reducible repeat (first | apply zzf | apply zzg | apply zze)); exact BK365.out) k_ hk⟩) _ (Nat.le_refl _)) (Below.refl _ _) (Nat.le_refl _) (by simp) ?_; (case hd => rfl); (case hg => rfl); (case hr => first | (go_simp; done) | (go_simp; rfl)); (case hp => exact (Reps.c6 (show Kd.FK k27 _ _ (⟨t369, t370, t371, t372, t373, x366005_2⟩ : S27) [.bool t369, .bool t370, .int .i64 t371, .int .i64 t372, .int .i64 t373, .slice Ao33 x366005_2.length co33] from (k27_mkF _ _ (⟨t369, t370, t371, t372, t373, x366005_2⟩ : S27) (Kd.N_reads' (Kd.N_mono (ok' := (fun k_ => (w.heap.size ≤ k_) ∧ some k_ ≠ (v379 : Value).ownBlock ∧ k_ ≠ gb365)) (HO_366005.out) (fun k_ hk => ⟨hk.1.1, ⟨hk.2, hk.1.2⟩⟩))).2.1 (Kd.N_F (Kd.N_mono (ok' := (fun k_ => (w.heap.size ≤ k_) ∧ some k_ ≠ (v379 : Value).ownBlock ∧ k_ ≠ gb365)) (HO_366005.out) (fun k_ hk => ⟨hk.1.1, ⟨hk.2, hk.1.2⟩⟩))))) (Reps.none _ _))); intro v382 w34 ho35 hb hg_ hnew_; clear hg_ hnew_; (first | rw [← Ny381.out] at ho35 | (simp only [Int.reduceToNat] at ho35; rw [← Ny381.out] at ho35)); have n0_ := zzm (Kd.N_elder' (by (with_reducible repeat (first | apply Kd.N_alloc | apply Kd.N_drewN | apply Kd.N_drew)); exact HO380.out) (by first | exact Kd.N_base ho35 | exact Kd.S_base ho35 | exact Kd.R_base ho35) hb); have n1_ := zzm (Kd.N_lower ho35 (zzo (by repeat (first | (with_reducible first | exact HB.out | apply zza | apply zzb | apply zzc | refine zzd ?_ GE365.out) | exact HB.out)))); have n2_ := zzm (zzh (g := gb365) (o := .cells #[.bool t369, .bool t370, .int .i64 t371, .int .i64 t372, .int .i64 t373, .slice Ao33 x366005_2.length co33] 27 (0, 0)) (by (with_reducible repeat (first | apply zzf | apply zzg | apply zze)); exact BK365.out) hb); have n3_ := zzm (zzp (by repeat (first | (with_reducible first | exact HB.out | apply zza | apply zzb | apply zzc | refine zzd ?_ GE365.out) | exact HB.out)) hb); clear HO380; clear BK365; clear HB; clear HO_366005; have HO380 := n0_; have HO383 := n1_; have BK365 := n2_; have HB := n3_; clear n0_ n1_ n2_ n3_; clear hb ho35; refine hK.out _ _ ⟨(zzk BK365.out 0).trans rfl, (zzk BK365.out 1).trans rfl, (zzk BK365.out 2).trans rfl, (zzk BK365.out 3).trans rfl, (zzk BK365.out 4).trans rfl, (zzk BK365.out 5).trans rfl⟩ (fun hHeld => ?_); clear hK K; refine norm_ (a' := ?_) ?_ ?_; rotate_left
           ·
            show Act.put _ (some 39) _ = _; simp only [Act.put, zzq, zzr, zzs, i64_w, i32_w]; rfl
           exact norm_ (by simp only [putAll, Act.put, zzq, zzr, zzs]) (hCont (v379, v382) _ ⟨hHeld, (by (with_reducible repeat (first | apply Kd.N_alloc | apply Kd.N_drewN | apply Kd.N_drew)); exact Kd.N_mono HO380.out (fun _ hk => ⟨hk.1.1, ⟨hk.2, hk.1.2.2⟩⟩)), (by (with_reducible repeat (first | apply Kd.N_alloc | apply Kd.N_drewN | apply Kd.N_drew)); exact HO383.out), (by (with_reducible repeat (first | apply zzf | apply zzg | apply zze)); exact BK365.out), (by repeat (first | (with_reducible first | exact HB.out | apply zza | apply zzb | apply zzc | refine zzd ?_ GE365.out) | exact HB.out))⟩)
          ·
           skip; refine Kd.N_lit_step k27 _ 27 ?hg (N' := 39) ?hd (xs := ([(⟨t369, t370, t371, t372, t373, x366005_2⟩ : S27)] : List (S27))) (inner := [.bool t369, .bool t370, .int .i64 t371, .int .i64 t372, .int .i64 t373, .slice Ao33 x366005_2.length co33]) (ok := (fun k_ => (w.heap.size ≤ k_) ∧ k_ ≠ gb365)) (okp := (fun k_ => (w.heap.size ≤ k_) ∧ k_ ≠ gb365)) ?hr ?hp (fun _ hk => hk) ((show ∀ k_, w31.heap.size ≤ k_ → (fun k_ => (w.heap.size ≤ k_) ∧ k_ ≠ gb365) k_ from fun k_ hk => ⟨(Nat.le_trans (zzo (by repeat (first | (with_reducible first | exact HB.out | apply zza | apply zzb | apply zzc | refine zzd ?_ GE365.out) | exact HB.out))) hk), Kd.freshB (g := gb365) (o := .cells #[.bool t369, .bool t370, .int .i64 t371, .int .i64 t372, .int .i64 t373, .slice Ao33 x366005_2.length co33] 27 (0, 0)) (by (with_reducible repeat (first | apply zzf | apply zzg | apply zze)); exact BK365.out) k_ hk⟩) _ (Nat.le_refl _)) (Below.refl _ _) (Nat.le_refl _) (by simp) ?_; (case hd => rfl); (case hg => rfl); (case hr => first | (go_simp; done) | (go_simp; rfl)); (case hp => exact (Reps.c6 (show Kd.FK k27 _ _ (⟨t369, t370, t371, t372, t373, x366005_2⟩ : S27) [.bool t369, .bool t370, .int .i64 t371, .int .i64 t372, .int .i64 t373, .slice Ao33 x366005_2.length co33] from (k27_mkF _ _ (⟨t369, t370, t371, t372, t373, x366005_2⟩ : S27) (Kd.N_reads' (Kd.N_mono (ok' := (fun k_ => (w.heap.size ≤ k_) ∧ k_ ≠ gb365)) (HO_366005.out) (fun k_ hk => ⟨hk.1, hk.2⟩))).2.1 (Kd.N_F (Kd.N_mono (ok' := (fun k_ => (w.heap.size ≤ k_) ∧ k_ ≠ gb365)) (HO_366005.out) (fun k_ hk => ⟨hk.1, hk.2⟩))))) (Reps.none _ _))); intro v382 w33 ho34 hb hg_ hnew_; clear hg_ hnew_; (first | rw [← Ny381.out] at ho34 | (simp only [Int.reduceToNat] at ho34; rw [← Ny381.out] at ho34)); have n0_ := zzm (Kd.N_lower ho34 (zzo (by repeat (first | (with_reducible first | exact HB.out | apply zza | apply zzb | apply zzc | refine zzd ?_ GE365.out) | exact HB.out)))); have n1_ := zzm (zzh (g := gb365) (o := .cells #[.bool t369, .bool t370, .int .i64 t371, .int .i64 t372, .int .i64 t373, .slice Ao33 x366005_2.length co33] 27 (0, 0)) (by (with_reducible repeat (first | apply zzf | apply zzg | apply zze)); exact BK365.out) hb); have n2_ := zzm (zzp (by repeat (first | (with_reducible first | exact HB.out | apply zza | apply zzb | apply zzc | refine zzd ?_ GE365.out) | exact HB.out)) hb); clear BK365; clear HB; clear HO_366005; have HO383 := n0_; have BK365 := n1_; have HB := n2_; clear n0_ n1_ n2_; clear hb ho34; refine hK.out _ _ ⟨(zzk BK365.out 0).trans rfl, (zzk BK365.out 1).trans rfl, (zzk BK365.out 2).trans rfl, (zzk BK365.out 3).trans rfl, (zzk BK365.out 4).trans rfl, (zzk BK365.out 5).trans rfl⟩ (fun hHeld => ?_); clear hK K; refine norm_ (a' := ?_) ?_ ?_; rotate_left
           ·
            show Act.put _ (some 39) _ = _; simp only [Act.put, zzq, zzr, zzs, i64_w, i32_w]; rfl
           refine one_ (i := 1) (N := some 37) (zzB 6 15) rfl rfl (by kernel_rfl) (by decide) (fun K hK => ?_); refine goes_ Try.func71 (by kernel_rfl) rfl #[.slice A0 l0.length c0] (by rfl) rfl rfl (by (try simp only [List.map_toArray, List.map_cons, List.map_nil]); first | done | rfl | (simp only [List.length_drop, List.length_take]; rfl)) ?_; with_reducible refine (impl_copyBatches.calls k2 _ _ l0 t378 _ ?side1 ?side2 A27.out).mono ?_; (case side1 => repeat (first | exact (Kd.C_below HR0.out HB.out) | (with_reducible refine Kd.C_alloc ?_ _) | (with_reducible refine Kd.C_drewN ?_ _) | (with_reducible refine Kd.C_drew ?_))); (case side2 => exact HC0.out); rintro e w35 ⟨v379, rfl, ho0, hb⟩; refine ⟨_, rfl, ?_⟩; have n0_ := zzm (Kd.N_elder' (by (with_reducible repeat (first | apply Kd.N_alloc | apply Kd.N_drewN | apply Kd.N_drew)); exact HO383.out) (by first | exact Kd.N_base ho0 | exact Kd.S_base ho0 | exact Kd.R_base ho0) hb); have n1_ := zzm (Kd.N_lower (Kd.N_mono (ok' := fun k_ => (w.heap.size ≤ k_) ∧ some k_ ≠ (v382 : Value).ownBlock ∧ k_ ≠ gb365) (Kd.R_N (Kd.R_bound ho0)) (fun k_ hk_ => ⟨(Nat.le_trans (zzo (by repeat (first | (with_reducible first | exact HB.out | apply zza | apply zzb | apply zzc | refine zzd ?_ GE365.out) | exact HB.out))) hk_.2.1), (Kd.fresh' (Kd.N_lt (by (with_reducible repeat (first | apply Kd.N_alloc | apply Kd.N_drewN | apply Kd.N_drew)); exact HO383.out)) k_ hk_.2.1), (Kd.freshB (g := gb365) (o := .cells #[.bool t369, .bool t370, .int .i64 t371, .int .i64 t372, .int .i64 t373, .slice Ao33 x366005_2.length co33] 27 (0, 0)) (by (with_reducible repeat (first | apply zzf | apply zzg | apply zze)); exact BK365.out) k_ hk_.2.1)⟩)) (zzo (by repeat (first | (with_reducible first | exact HB.out | apply zza | apply zzb | apply zzc | refine zzd ?_ GE365.out) | exact HB.out)))); have n2_ := zzm (zzh (g := gb365) (o := .cells #[.bool t369, .bool t370, .int .i64 t371, .int .i64 t372, .int .i64 t373, .slice Ao33 x366005_2.length co33] 27 (0, 0)) (by (with_reducible repeat (first | apply zzf | apply zzg | apply zze)); exact BK365.out) hb); have n3_ := zzm (zzp (by repeat (first | (with_reducible first | exact HB.out | apply zza | apply zzb | apply zzc | refine zzd ?_ GE365.out) | exact HB.out)) hb); clear HO383; clear BK365; clear HB; have HO383 := n0_; have HO380 := n1_; have BK365 := n2_; have HB := n3_; clear n0_ n1_ n2_ n3_; (try clear hb); (try clear hb2); (try clear hk); (try clear hi); (try clear ho0); refine hK.out _ _ ⟨(zzk BK365.out 0).trans rfl, (zzk BK365.out 1).trans rfl, (zzk BK365.out 2).trans rfl, (zzk BK365.out 3).trans rfl, (zzk BK365.out 4).trans rfl, (zzk BK365.out 5).trans rfl⟩ (fun hHeld => ?_); clear hK K; refine norm_ (a' := ?_) ?_ ?_; rotate_left
           ·
            show Act.put _ (some 37) _ = _; simp only [Act.put, zzq, zzr, zzs, i64_w, i32_w]; rfl
           exact norm_ (by simp only [putAll, Act.put, zzq, zzr, zzs]) (hCont (v379, v382) _ ⟨hHeld, (by (with_reducible repeat (first | apply Kd.N_alloc | apply Kd.N_drewN | apply Kd.N_drew)); exact HO380.out), (by (with_reducible repeat (first | apply Kd.N_alloc | apply Kd.N_drewN | apply Kd.N_drew)); exact Kd.N_mono HO383.out (fun _ hk => ⟨hk.1.1, ⟨hk.2, hk.1.2⟩⟩)), (by (with_reducible repeat (first | apply zzf | apply zzg | apply zze)); exact BK365.out), (by repeat (first | (with_reducible first | exact HB.out | apply zza | apply zzb | apply zzc | refine zzd ?_ GE365.out) | exact HB.out))⟩)
         rintro ⟨v379, v382⟩ w36 ⟨hS_, h0_, h1_, h2_, h3_⟩; have n0_ : Aside0 (Kd.N k27 27 w36 w.heap.size (fun k_ => (w.heap.size ≤ k_) ∧ some k_ ≠ (v382 : Value).ownBlock ∧ k_ ≠ gb365) v379 t378) := ⟨h0_⟩; have n1_ : Aside0 (Kd.N k27 27 w36 w.heap.size (fun k_ => (w.heap.size ≤ k_) ∧ some k_ ≠ (v379 : Value).ownBlock ∧ k_ ≠ gb365) v382 y381) := ⟨h1_⟩; have n2_ : Aside0 (w36.heap[gb365]? = some (.cells #[.bool t369, .bool t370, .int .i64 t371, .int .i64 t372, .int .i64 t373, .slice Ao33 x366005_2.length co33] 27 (0, 0))) := ⟨h2_⟩; have n3_ : Aside0 (Below w.heap.size w w36) := ⟨h3_⟩; clear HO_366005; clear BK365; clear HB; clear h0_ h1_ h2_ h3_; have HO380 := n0_; have HO383 := n1_; have BK365 := n2_; have HB := n3_; clear n0_ n1_ n2_ n3_; have hHeld : w36.cell? ⟨gb365, 0, none⟩ = some (.bool t369) ∧ w36.cell? ⟨gb365, 1, none⟩ = some (.bool t370) ∧ w36.cell? ⟨gb365, 2, none⟩ = some (.int .i64 t371) ∧ w36.cell? ⟨gb365, 3, none⟩ = some (.int .i64 t372) ∧ w36.cell? ⟨gb365, 4, none⟩ = some (.int .i64 t373) ∧ w36.cell? ⟨gb365, 5, none⟩ = some ((.slice Ao33 x366005_2.length co33)) := hS_; obtain ⟨Ao38, co38, eo38⟩ := Kd.N_slice HO383.out; (first | subst eo38 | (injection eo38 with f1_ f2_ f3_; have f4_ := f1_.symm; have f5_ := f3_.symm; clear f1_ f2_ f3_; subst f4_; subst f5_)); refine norm_ (a' := ?_) ?_ ?_; rotate_left
         ·
          simp only [putAll, Act.put, zzq, zzr, zzs]; rfl
         refine one_ (i := 4) (N := some 40) (zzB 6 31) rfl rfl (by kernel_rfl) (by decide) (fun K hK => ?_); refine Kd.N_append_rows_step k27 (w0 := w) w.heap.size (by rfl) (.tmp 37) (.tmp 39) 39 27 (.agg #[(.bool false), (.bool false), (.int .i64 0), (.int .i64 0), (.int .i64 0), (.slice none 0 0)]) 56 rfl Try.underlying39 info27 rfl (by decide) (by omega) v379 t378 y381 _ _ _ (fun k_ => (w.heap.size ≤ k_) ∧ k_ ≠ gb365) (fun k_ => ((fun k_ => (w.heap.size ≤ k_) ∧ k_ ≠ gb365)) k_ ∧ some k_ ≠ (v379 : Value).ownBlock) rfl rfl ?aO ?aR (fun _ hk => hk) ?aF ?aB ?aS ?aL ?_; (case aR => exact (by skip; exact Kd.N_F (Kd.N_mono (ok' := (fun k_ => ((fun k_ => (w.heap.size ≤ k_) ∧ k_ ≠ gb365)) k_ ∧ some k_ ≠ (v379 : Value).ownBlock)) (HO383.out) (fun k_ hk => ⟨⟨hk.1, hk.2.2⟩, hk.2.1⟩)))); (case aB => exact (by repeat (first | (with_reducible first | exact HB.out | apply zza | apply zzb | apply zzc | refine zzd ?_ GE365.out) | exact HB.out))); (case aF => exact (fun k_ hk => ⟨(Nat.le_trans (zzo (by repeat (first | (with_reducible first | exact HB.out | apply zza | apply zzb | apply zzc | refine zzd ?_ GE365.out) | exact HB.out))) hk), Kd.freshB (g := gb365) (o := .cells #[.bool t369, .bool t370, .int .i64 t371, .int .i64 t372, .int .i64 t373, .slice Ao33 x366005_2.length co33] 27 (0, 0)) (by (with_reducible repeat (first | apply zzf | apply zzg | apply zze)); exact BK365.out) k_ hk⟩)); (case aO => exact (by (with_reducible repeat (first | apply Kd.N_alloc | apply Kd.N_drewN | apply Kd.N_drew)); exact Kd.N_mono HO380.out (fun _ hk => ⟨hk.1, hk.2.2⟩))); (case aS => exact (zzo (by repeat (first | (with_reducible first | exact HB.out | apply zza | apply zzb | apply zzc | refine zzd ?_ GE365.out) | exact HB.out)))); (case aL => have := LMc28.out; omega); intro v385 w37 ho hb hg hat; rw [← Ny384.out] at ho; have n0_ := zzm (blk_grown (g := gb365) (o := .cells #[.bool t369, .bool t370, .int .i64 t371, .int .i64 t372, .int .i64 t373, .slice Ao33 x366005_2.length co33] 27 (0, 0)) (by (with_reducible repeat (first | apply zzf | apply zzg | apply zze)); exact BK365.out) hg (Kd.N_away HO380.out (fun _ hk => hk.2.2))); have n1_ := zzm (Kd.N_afterv (ok := (fun k_ => (w.heap.size ≤ k_) ∧ k_ ≠ gb365)) (by (with_reducible repeat (first | apply Kd.N_alloc | apply Kd.N_drewN | apply Kd.N_drew)); exact Kd.N_mono HO383.out (fun _ hk => ⟨⟨hk.1, hk.2.2⟩, hk.2.1⟩)) hg hat); have n2_ := zzm (hb); have n3_ := zzm (ho); clear BK365; clear HO383; clear HB; clear HO380; have BK365 := n0_; have HO383 := n1_; have HB := n2_; have HO386 := n3_; clear n0_ n1_ n2_ n3_; clear ho hb hg hat; refine hK.out _ _ ⟨(zzk BK365.out 0).trans rfl, (zzk BK365.out 1).trans rfl, (zzk BK365.out 2).trans rfl, (zzk BK365.out 3).trans rfl, (zzk BK365.out 4).trans rfl, (zzk BK365.out 5).trans rfl⟩ (fun hHeld => ?_); clear hK K; refine norm_ (a' := ?_) ?_ ?_; rotate_left
         ·
          show Act.put _ (some 40) _ = _; simp only [Act.put, zzq, zzr, zzs, i64_w, i32_w]; rfl
         refine pure_ (i := 5) (N := some 8) (v := ?_) (a' := ?_) (zzB 6 63) rfl rfl (by kernel_rfl) (fun _ _ _ h => h) (Or.inl ⟨by rfl, ?_⟩) ?_ ?_; rotate_left
         ·
          intro w'; go_simp; with_reducible rfl
         rotate_left
         ·
          simp only [Act.put, zzq, zzr, zzs, i64_w, i32_w]; rfl
         refine done_ (by kernel_rfl) ?_; obtain ⟨Ao39, co39, eo39⟩ := Kd.N_slice HO386.out; subst eo39; try go_wp2_with (first | ((with_reducible refine gate_callee (f := 61) rfl ?_); refine goesL_ (some 42) rfl rfl Try.func61 (by kernel_rfl) rfl #[.slice Ao39 y384.length co39] rfl (by (try simp only [List.map_toArray, List.map_cons, List.map_nil]); first | done | rfl | (simp only [List.length_drop, List.length_take]; rfl)) ?_; (with_reducible refine (impl_LogValid.calls k2 _ _ y384 true _ ?side1 ?side2 A29.out).mono ?_); (case side1 => repeat (first | exact (Kd.N_reads' HO386.out).2.2 | (with_reducible refine Kd.C_alloc ?_ _) | (with_reducible refine Kd.C_drewN ?_ _) | (with_reducible refine Kd.C_drew ?_))); (case side2 => exact (Kd.N_reads' HO386.out).2.1); rintro e w40 ⟨rfl, hb⟩; refine ⟨_, rfl, ?_⟩; have n0_ := zzm (Kd.N_below (by (with_reducible repeat (first | apply Kd.N_alloc | apply Kd.N_drewN | apply Kd.N_drew)); exact HO383.out) hb); have n1_ := zzm (Kd.N_below (by (with_reducible repeat (first | apply Kd.N_alloc | apply Kd.N_drewN | apply Kd.N_drew)); exact HO386.out) hb); have n2_ := zzm (zzh (g := gb365) (o := .cells #[.bool t369, .bool t370, .int .i64 t371, .int .i64 t372, .int .i64 t373, .slice Ao33 x366005_2.length co33] 27 (0, 0)) (by (with_reducible repeat (first | apply zzf | apply zzg | apply zze)); exact BK365.out) hb); have n3_ := zzm (zzp (by repeat (first | (with_reducible first | exact HB.out | apply zza | apply zzb | apply zzc | refine zzd ?_ GE365.out) | exact HB.out)) hb); clear HO383 HO386 BK365 HB; have HO383 := n0_; have HO386 := n1_; have BK365 := n2_; have HB := n3_; clear n0_ n1_ n2_ n3_; (try clear hb); (try clear hb2); (try clear hk); (try clear hi)))
         go_ret2; exact ⟨_, by first | rfl | (simp [errW_none, errW_some] <;> rfl) | (simp [*, errW_none, errW_some] <;> rfl), by (with_reducible repeat (first | apply Kd.N_alloc | apply Kd.N_drewN | apply Kd.N_drew)); exact Kd.N_mono HO386.out (fun _ hk => hk.1), by repeat (first | (with_reducible first | exact HB.out | apply zza | apply zzb | apply zzc | refine zzd ?_ GE365.out) | exact HB.out)⟩
        ·
         replace c30 := Bool.eq_false_iff.mpr c30; subst c30; have H1 : (some (([] : List (S27)), false)) = some (r1, r2) := by rw [if_neg (show ¬ (false = true) by decide)] at H; exact H
         clear H; have H := H1; clear H1; simp only [Option.some.injEq, Prod.mk.injEq] at H; obtain ⟨rfl, rfl⟩ := H; try go_wp2
         have n0_ := zzm (Kd.N_drew HO_366005.out); have n1_ := zzm (zzg BK365.out); have n2_ := zzm (zzc HB.out); clear HO_366005; clear BK365; clear HB; have HO_366005 := n0_; have BK365 := n1_; have HB := n2_; clear n0_ n1_ n2_; refine start_ (n := 6) (S := fun w' => w'.cell? ⟨gb365, 0, none⟩ = some (.bool t369) ∧ w'.cell? ⟨gb365, 1, none⟩ = some (.bool t370) ∧ w'.cell? ⟨gb365, 2, none⟩ = some (.int .i64 t371) ∧ w'.cell? ⟨gb365, 3, none⟩ = some (.int .i64 t372) ∧ w'.cell? ⟨gb365, 4, none⟩ = some (.int .i64 t373) ∧ w'.cell? ⟨gb365, 5, none⟩ = some (u366005)) (ds := []) (zzB 6 0) (by kernel_rfl) rfl rfl ⟨(zzk BK365.out 0).trans rfl, (zzk BK365.out 1).trans rfl, (zzk BK365.out 2).trans rfl, (zzk BK365.out 3).trans rfl, (zzk BK365.out 4).trans rfl, (zzk BK365.out 5).trans rfl⟩ (fun hHeld => ?_); generalize wr.drew = w41 at HO_366005 BK365 HB hHeld ⊢; refine pure_ (i := 0) (N := some 36) (v := ?_) (a' := ?_) (zzB 6 1) rfl rfl (by kernel_rfl) (fun _ _ _ h => h) (Or.inl ⟨by rfl, ?_⟩) ?_ ?_; rotate_left
         ·
          intro w'; go_simp; with_reducible rfl
         rotate_left
         ·
          simp only [Act.put, zzq, zzr, zzs, i64_w, i32_w]; rfl
         refine take_ (i := 2) (N := some 38) (v := ?_) (a' := ?_) (zzB 6 5) rfl rfl (by kernel_rfl) (fun _ _ _ h => h) (Or.inl ⟨by rfl, ?_⟩) hHeld ?_ ?_; rotate_left
         ·
          rintro w' ⟨s0, s1, s2, s3, s4, s5⟩; go_simp; with_reducible rfl
         rotate_left
         ·
          simp only [Act.put, zzq, zzr, zzs, i64_w, i32_w]; rfl
         obtain ⟨Ao43, co43, eo43⟩ := Kd.N_slice HO_366005.out; subst eo43; refine join_ (σ := Value × Value) 2 (zzB 6 15) (fun s_ => [(37, s_.1), (39, s_.2)]) (fun s_ w' => (w'.cell? ⟨gb365, 0, none⟩ = some (.bool t369) ∧ w'.cell? ⟨gb365, 1, none⟩ = some (.bool t370) ∧ w'.cell? ⟨gb365, 2, none⟩ = some (.int .i64 t371) ∧ w'.cell? ⟨gb365, 3, none⟩ = some (.int .i64 t372) ∧ w'.cell? ⟨gb365, 4, none⟩ = some (.int .i64 t373) ∧ w'.cell? ⟨gb365, 5, none⟩ = some ((.slice Ao43 x366005_2.length co43))) ∧ (Kd.N k27 27 w' w.heap.size (fun k_ => (w.heap.size ≤ k_) ∧ some k_ ≠ (s_.2 : Value).ownBlock ∧ k_ ≠ gb365) s_.1 t378) ∧ (Kd.N k27 27 w' w.heap.size (fun k_ => (w.heap.size ≤ k_) ∧ some k_ ≠ (s_.1 : Value).ownBlock ∧ k_ ≠ gb365) s_.2 y381) ∧ (w'.heap[gb365]? = some (.cells #[.bool t369, .bool t370, .int .i64 t371, .int .i64 t372, .int .i64 t373, .slice Ao43 x366005_2.length co43] 27 (0, 0))) ∧ (Below w.heap.size w w')) ?_ ?_; rotate_left
         ·
          intro hCont; refine two_ (i := 1) (j := 3) (Ni := some 37) (Nj := some 39) (zzB 6 7) (zzB 6 13) rfl rfl rfl rfl (by kernel_rfl) (by decide) (by decide) (fun K hK => ?_) (fun K hK => ?_)
          ·
           skip; refine goes_ Try.func71 (by kernel_rfl) rfl #[.slice A0 l0.length c0] (by rfl) rfl rfl (by (try simp only [List.map_toArray, List.map_cons, List.map_nil]); first | done | rfl | (simp only [List.length_drop, List.length_take]; rfl)) ?_; with_reducible refine (impl_copyBatches.calls k2 _ _ l0 t378 _ ?side1 ?side2 A27.out).mono ?_; (case side1 => repeat (first | exact (Kd.C_below HR0.out HB.out) | (with_reducible refine Kd.C_alloc ?_ _) | (with_reducible refine Kd.C_drewN ?_ _) | (with_reducible refine Kd.C_drew ?_))); (case side2 => exact HC0.out); rintro e w42 ⟨v379, rfl, ho0, hb⟩; refine ⟨_, rfl, ?_⟩; have n0_ := zzm (Kd.N_elder' (by (with_reducible repeat (first | apply Kd.N_alloc | apply Kd.N_drewN | apply Kd.N_drew)); exact HO_366005.out) (by first | exact Kd.N_base ho0 | exact Kd.S_base ho0 | exact Kd.R_base ho0) hb); have n1_ := zzm (Kd.N_lower (Kd.N_mono (ok' := fun k_ => (w.heap.size ≤ k_) ∧ some k_ ≠ (.slice Ao43 x366005_2.length co43 : Value).ownBlock ∧ k_ ≠ gb365) (Kd.R_N (Kd.R_bound ho0)) (fun k_ hk_ => ⟨(Nat.le_trans (zzo (by repeat (first | (with_reducible first | exact HB.out | apply zza | apply zzb | apply zzc | refine zzd ?_ GE365.out) | exact HB.out))) hk_.2.1), (Kd.fresh' (Kd.N_lt (by (with_reducible repeat (first | apply Kd.N_alloc | apply Kd.N_drewN | apply Kd.N_drew)); exact HO_366005.out)) k_ hk_.2.1), (Kd.freshB (g := gb365) (o := .cells #[.bool t369, .bool t370, .int .i64 t371, .int .i64 t372, .int .i64 t373, (.slice Ao43 x366005_2.length co43)] 27 (0, 0)) (by (with_reducible repeat (first | apply zzf | apply zzg | apply zze)); exact BK365.out) k_ hk_.2.1)⟩)) (zzo (by repeat (first | (with_reducible first | exact HB.out | apply zza | apply zzb | apply zzc | refine zzd ?_ GE365.out) | exact HB.out)))); have n2_ := zzm (zzh (g := gb365) (o := .cells #[.bool t369, .bool t370, .int .i64 t371, .int .i64 t372, .int .i64 t373, (.slice Ao43 x366005_2.length co43)] 27 (0, 0)) (by (with_reducible repeat (first | apply zzf | apply zzg | apply zze)); exact BK365.out) hb); have n3_ := zzm (zzp (by repeat (first | (with_reducible first | exact HB.out | apply zza | apply zzb | apply zzc | refine zzd ?_ GE365.out) | exact HB.out)) hb); clear HO_366005; clear BK365; clear HB; have HO_366005 := n0_; have HO380 := n1_; have BK365 := n2_; have HB := n3_; clear n0_ n1_ n2_ n3_; (try clear hb); (try clear hb2); (try clear hk); (try clear hi); (try clear ho0); refine hK.out _ _ ⟨(zzk BK365.out 0).trans rfl, (zzk BK365.out 1).trans rfl, (zzk BK365.out 2).trans rfl, (zzk BK365.out 3).trans rfl, (zzk BK365.out 4).trans rfl, (zzk BK365.out 5).trans rfl⟩ (fun hHeld => ?_); clear hK K; refine norm_ (a' := ?_) ?_ ?_; rotate_left
           ·
            show Act.put _ (some 37) _ = _; simp only [Act.put, zzq, zzr, zzs, i64_w, i32_w]; rfl
           refine one_ (i := 3) (N := some 39) (zzB 6 15) rfl rfl (by kernel_rfl) (by decide) (fun K hK => ?_); refine Kd.N_lit_step k27 _ 27 ?hg (N' := 39) ?hd (xs := ([(⟨t369, t370, t371, t372, t373, x366005_2⟩ : S27)] : List (S27))) (inner := [.bool t369, .bool t370, .int .i64 t371, .int .i64 t372, .int .i64 t373, .slice Ao43 x366005_2.length co43]) (ok := (fun k_ => (w.heap.size ≤ k_) ∧ some k_ ≠ (v379 : Value).ownBlock ∧ k_ ≠ gb365)) (okp := (fun k_ => (w.heap.size ≤ k_) ∧ some k_ ≠ (v379 : Value).ownBlock ∧ k_ ≠ gb365)) ?hr ?hp (fun _ hk => hk) ((show ∀ k_, w42.heap.size ≤ k_ → (fun k_ => (w.heap.size ≤ k_) ∧ some k_ ≠ (v379 : Value).ownBlock ∧ k_ ≠ gb365) k_ from fun k_ hk => ⟨(Nat.le_trans (zzo (by repeat (first | (with_reducible first | exact HB.out | apply zza | apply zzb | apply zzc | refine zzd ?_ GE365.out) | exact HB.out))) hk), Kd.fresh' (Kd.N_lt (by (with_reducible repeat (first | apply Kd.N_alloc | apply Kd.N_drewN | apply Kd.N_drew)); exact HO380.out)) k_ hk, Kd.freshB (g := gb365) (o := .cells #[.bool t369, .bool t370, .int .i64 t371, .int .i64 t372, .int .i64 t373, .slice Ao43 x366005_2.length co43] 27 (0, 0)) (by (with_reducible repeat (first | apply zzf | apply zzg | apply zze)); exact BK365.out) k_ hk⟩) _ (Nat.le_refl _)) (Below.refl _ _) (Nat.le_refl _) (by simp) ?_; (case hd => rfl); (case hg => rfl); (case hr => first | (go_simp; done) | (go_simp; rfl)); (case hp => exact (Reps.c6 (show Kd.FK k27 _ _ (⟨t369, t370, t371, t372, t373, x366005_2⟩ : S27) [.bool t369, .bool t370, .int .i64 t371, .int .i64 t372, .int .i64 t373, .slice Ao43 x366005_2.length co43] from (k27_mkF _ _ (⟨t369, t370, t371, t372, t373, x366005_2⟩ : S27) (Kd.N_reads' (Kd.N_mono (ok' := (fun k_ => (w.heap.size ≤ k_) ∧ some k_ ≠ (v379 : Value).ownBlock ∧ k_ ≠ gb365)) (HO_366005.out) (fun k_ hk => ⟨hk.1.1, ⟨hk.2, hk.1.2⟩⟩))).2.1 (Kd.N_F (Kd.N_mono (ok' := (fun k_ => (w.heap.size ≤ k_) ∧ some k_ ≠ (v379 : Value).ownBlock ∧ k_ ≠ gb365)) (HO_366005.out) (fun k_ hk => ⟨hk.1.1, ⟨hk.2, hk.1.2⟩⟩))))) (Reps.none _ _))); intro v382 w44 ho45 hb hg_ hnew_; clear hg_ hnew_; (first | rw [← Ny381.out] at ho45 | (simp only [Int.reduceToNat] at ho45; rw [← Ny381.out] at ho45)); have n0_ := zzm (Kd.N_elder' (by (with_reducible repeat (first | apply Kd.N_alloc | apply Kd.N_drewN | apply Kd.N_drew)); exact HO380.out) (by first | exact Kd.N_base ho45 | exact Kd.S_base ho45 | exact Kd.R_base ho45) hb); have n1_ := zzm (Kd.N_lower ho45 (zzo (by repeat (first | (with_reducible first | exact HB.out | apply zza | apply zzb | apply zzc | refine zzd ?_ GE365.out) | exact HB.out)))); have n2_ := zzm (zzh (g := gb365) (o := .cells #[.bool t369, .bool t370, .int .i64 t371, .int .i64 t372, .int .i64 t373, .slice Ao43 x366005_2.length co43] 27 (0, 0)) (by (with_reducible repeat (first | apply zzf | apply zzg | apply zze)); exact BK365.out) hb); have n3_ := zzm (zzp (by repeat (first | (with_reducible first | exact HB.out | apply zza | apply zzb | apply zzc | refine zzd ?_ GE365.out) | exact HB.out)) hb); clear HO380; clear BK365; clear HB; clear HO_366005; have HO380 := n0_; have HO383 := n1_; have BK365 := n2_; have HB := n3_; clear n0_ n1_ n2_ n3_; clear hb ho45; refine hK.out _ _ ⟨(zzk BK365.out 0).trans rfl, (zzk BK365.out 1).trans rfl, (zzk BK365.out 2).trans rfl, (zzk BK365.out 3).trans rfl, (zzk BK365.out 4).trans rfl, (zzk BK365.out 5).trans rfl⟩ (fun hHeld => ?_); clear hK K; refine norm_ (a' := ?_) ?_ ?_; rotate_left
           ·
            show Act.put _ (some 39) _ = _; simp only [Act.put, zzq, zzr, zzs, i64_w, i32_w]; rfl
           exact norm_ (by simp only [putAll, Act.put, zzq, zzr, zzs]) (hCont (v379, v382) _ ⟨hHeld, (by (with_reducible repeat (first | apply Kd.N_alloc | apply Kd.N_drewN | apply Kd.N_drew)); exact Kd.N_mono HO380.out (fun _ hk => ⟨hk.1.1, ⟨hk.2, hk.1.2.2⟩⟩)), (by (with_reducible repeat (first | apply Kd.N_alloc | apply Kd.N_drewN | apply Kd.N_drew)); exact HO383.out), (by (with_reducible repeat (first | apply zzf | apply zzg | apply zze)); exact BK365.out), (by repeat (first | (with_reducible first | exact HB.out | apply zza | apply zzb | apply zzc | refine zzd ?_ GE365.out) | exact HB.out))⟩)
          ·
           skip; refine Kd.N_lit_step k27 _ 27 ?hg (N' := 39) ?hd (xs := ([(⟨t369, t370, t371, t372, t373, x366005_2⟩ : S27)] : List (S27))) (inner := [.bool t369, .bool t370, .int .i64 t371, .int .i64 t372, .int .i64 t373, .slice Ao43 x366005_2.length co43]) (ok := (fun k_ => (w.heap.size ≤ k_) ∧ k_ ≠ gb365)) (okp := (fun k_ => (w.heap.size ≤ k_) ∧ k_ ≠ gb365)) ?hr ?hp (fun _ hk => hk) ((show ∀ k_, w41.heap.size ≤ k_ → (fun k_ => (w.heap.size ≤ k_) ∧ k_ ≠ gb365) k_ from fun k_ hk => ⟨(Nat.le_trans (zzo (by repeat (first | (with_reducible first | exact HB.out | apply zza | apply zzb | apply zzc | refine zzd ?_ GE365.out) | exact HB.out))) hk), Kd.freshB (g := gb365) (o := .cells #[.bool t369, .bool t370, .int .i64 t371, .int .i64 t372, .int .i64 t373, .slice Ao43 x366005_2.length co43] 27 (0, 0)) (by (with_reducible repeat (first | apply zzf | apply zzg | apply zze)); exact BK365.out) k_ hk⟩) _ (Nat.le_refl _)) (Below.refl _ _) (Nat.le_refl _) (by simp) ?_; (case hd => rfl); (case hg => rfl); (case hr => first | (go_simp; done) | (go_simp; rfl)); (case hp => exact (Reps.c6 (show Kd.FK k27 _ _ (⟨t369, t370, t371, t372, t373, x366005_2⟩ : S27) [.bool t369, .bool t370, .int .i64 t371, .int .i64 t372, .int .i64 t373, .slice Ao43 x366005_2.length co43] from (k27_mkF _ _ (⟨t369, t370, t371, t372, t373, x366005_2⟩ : S27) (Kd.N_reads' (Kd.N_mono (ok' := (fun k_ => (w.heap.size ≤ k_) ∧ k_ ≠ gb365)) (HO_366005.out) (fun k_ hk => ⟨hk.1, hk.2⟩))).2.1 (Kd.N_F (Kd.N_mono (ok' := (fun k_ => (w.heap.size ≤ k_) ∧ k_ ≠ gb365)) (HO_366005.out) (fun k_ hk => ⟨hk.1, hk.2⟩))))) (Reps.none _ _))); intro v382 w43 ho44 hb hg_ hnew_; clear hg_ hnew_; (first | rw [← Ny381.out] at ho44 | (simp only [Int.reduceToNat] at ho44; rw [← Ny381.out] at ho44)); have n0_ := zzm (Kd.N_lower ho44 (zzo (by repeat (first | (with_reducible first | exact HB.out | apply zza | apply zzb | apply zzc | refine zzd ?_ GE365.out) | exact HB.out)))); have n1_ := zzm (zzh (g := gb365) (o := .cells #[.bool t369, .bool t370, .int .i64 t371, .int .i64 t372, .int .i64 t373, .slice Ao43 x366005_2.length co43] 27 (0, 0)) (by (with_reducible repeat (first | apply zzf | apply zzg | apply zze)); exact BK365.out) hb); have n2_ := zzm (zzp (by repeat (first | (with_reducible first | exact HB.out | apply zza | apply zzb | apply zzc | refine zzd ?_ GE365.out) | exact HB.out)) hb); clear BK365; clear HB; clear HO_366005; have HO383 := n0_; have BK365 := n1_; have HB := n2_; clear n0_ n1_ n2_; clear hb ho44; refine hK.out _ _ ⟨(zzk BK365.out 0).trans rfl, (zzk BK365.out 1).trans rfl, (zzk BK365.out 2).trans rfl, (zzk BK365.out 3).trans rfl, (zzk BK365.out 4).trans rfl, (zzk BK365.out 5).trans rfl⟩ (fun hHeld => ?_); clear hK K; refine norm_ (a' := ?_) ?_ ?_; rotate_left
           ·
            show Act.put _ (some 39) _ = _; simp only [Act.put, zzq, zzr, zzs, i64_w, i32_w]; rfl
           refine one_ (i := 1) (N := some 37) (zzB 6 15) rfl rfl (by kernel_rfl) (by decide) (fun K hK => ?_); refine goes_ Try.func71 (by kernel_rfl) rfl #[.slice A0 l0.length c0] (by rfl) rfl rfl (by (try simp only [List.map_toArray, List.map_cons, List.map_nil]); first | done | rfl | (simp only [List.length_drop, List.length_take]; rfl)) ?_; with_reducible refine (impl_copyBatches.calls k2 _ _ l0 t378 _ ?side1 ?side2 A27.out).mono ?_; (case side1 => repeat (first | exact (Kd.C_below HR0.out HB.out) | (with_reducible refine Kd.C_alloc ?_ _) | (with_reducible refine Kd.C_drewN ?_ _) | (with_reducible refine Kd.C_drew ?_))); (case side2 => exact HC0.out); rintro e w45 ⟨v379, rfl, ho0, hb⟩; refine ⟨_, rfl, ?_⟩; have n0_ := zzm (Kd.N_elder' (by (with_reducible repeat (first | apply Kd.N_alloc | apply Kd.N_drewN | apply Kd.N_drew)); exact HO383.out) (by first | exact Kd.N_base ho0 | exact Kd.S_base ho0 | exact Kd.R_base ho0) hb); have n1_ := zzm (Kd.N_lower (Kd.N_mono (ok' := fun k_ => (w.heap.size ≤ k_) ∧ some k_ ≠ (v382 : Value).ownBlock ∧ k_ ≠ gb365) (Kd.R_N (Kd.R_bound ho0)) (fun k_ hk_ => ⟨(Nat.le_trans (zzo (by repeat (first | (with_reducible first | exact HB.out | apply zza | apply zzb | apply zzc | refine zzd ?_ GE365.out) | exact HB.out))) hk_.2.1), (Kd.fresh' (Kd.N_lt (by (with_reducible repeat (first | apply Kd.N_alloc | apply Kd.N_drewN | apply Kd.N_drew)); exact HO383.out)) k_ hk_.2.1), (Kd.freshB (g := gb365) (o := .cells #[.bool t369, .bool t370, .int .i64 t371, .int .i64 t372, .int .i64 t373, .slice Ao43 x366005_2.length co43] 27 (0, 0)) (by (with_reducible repeat (first | apply zzf | apply zzg | apply zze)); exact BK365.out) k_ hk_.2.1)⟩)) (zzo (by repeat (first | (with_reducible first | exact HB.out | apply zza | apply zzb | apply zzc | refine zzd ?_ GE365.out) | exact HB.out)))); have n2_ := zzm (zzh (g := gb365) (o := .cells #[.bool t369, .bool t370, .int .i64 t371, .int .i64 t372, .int .i64 t373, .slice Ao43 x366005_2.length co43] 27 (0, 0)) (by (with_reducible repeat (first | apply zzf | apply zzg | apply zze)); exact BK365.out) hb); have n3_ := zzm (zzp (by repeat (first | (with_reducible first | exact HB.out | apply zza | apply zzb | apply zzc | refine zzd ?_ GE365.out) | exact HB.out)) hb); clear HO383; clear BK365; clear HB; have HO383 := n0_; have HO380 := n1_; have BK365 := n2_; have HB := n3_; clear n0_ n1_ n2_ n3_; (try clear hb); (try clear hb2); (try clear hk); (try clear hi); (try clear ho0); refine hK.out _ _ ⟨(zzk BK365.out 0).trans rfl, (zzk BK365.out 1).trans rfl, (zzk BK365.out 2).trans rfl, (zzk BK365.out 3).trans rfl, (zzk BK365.out 4).trans rfl, (zzk BK365.out 5).trans rfl⟩ (fun hHeld => ?_); clear hK K; refine norm_ (a' := ?_) ?_ ?_; rotate_left
           ·
            show Act.put _ (some 37) _ = _; simp only [Act.put, zzq, zzr, zzs, i64_w, i32_w]; rfl
           exact norm_ (by simp only [putAll, Act.put, zzq, zzr, zzs]) (hCont (v379, v382) _ ⟨hHeld, (by (with_reducible repeat (first | apply Kd.N_alloc | apply Kd.N_drewN | apply Kd.N_drew)); exact HO380.out), (by (with_reducible repeat (first | apply Kd.N_alloc | apply Kd.N_drewN | apply Kd.N_drew)); exact Kd.N_mono HO383.out (fun _ hk => ⟨hk.1.1, ⟨hk.2, hk.1.2⟩⟩)), (by (with_reducible repeat (first | apply zzf | apply zzg | apply zze)); exact BK365.out), (by repeat (first | (with_reducible first | exact HB.out | apply zza | apply zzb | apply zzc | refine zzd ?_ GE365.out) | exact HB.out))⟩)
         rintro ⟨v379, v382⟩ w46 ⟨hS_, h0_, h1_, h2_, h3_⟩; have n0_ : Aside0 (Kd.N k27 27 w46 w.heap.size (fun k_ => (w.heap.size ≤ k_) ∧ some k_ ≠ (v382 : Value).ownBlock ∧ k_ ≠ gb365) v379 t378) := ⟨h0_⟩; have n1_ : Aside0 (Kd.N k27 27 w46 w.heap.size (fun k_ => (w.heap.size ≤ k_) ∧ some k_ ≠ (v379 : Value).ownBlock ∧ k_ ≠ gb365) v382 y381) := ⟨h1_⟩; have n2_ : Aside0 (w46.heap[gb365]? = some (.cells #[.bool t369, .bool t370, .int .i64 t371, .int .i64 t372, .int .i64 t373, .slice Ao43 x366005_2.length co43] 27 (0, 0))) := ⟨h2_⟩; have n3_ : Aside0 (Below w.heap.size w w46) := ⟨h3_⟩; clear HO_366005; clear BK365; clear HB; clear h0_ h1_ h2_ h3_; have HO380 := n0_; have HO383 := n1_; have BK365 := n2_; have HB := n3_; clear n0_ n1_ n2_ n3_; have hHeld : w46.cell? ⟨gb365, 0, none⟩ = some (.bool t369) ∧ w46.cell? ⟨gb365, 1, none⟩ = some (.bool t370) ∧ w46.cell? ⟨gb365, 2, none⟩ = some (.int .i64 t371) ∧ w46.cell? ⟨gb365, 3, none⟩ = some (.int .i64 t372) ∧ w46.cell? ⟨gb365, 4, none⟩ = some (.int .i64 t373) ∧ w46.cell? ⟨gb365, 5, none⟩ = some ((.slice Ao43 x366005_2.length co43)) := hS_; obtain ⟨Ao48, co48, eo48⟩ := Kd.N_slice HO383.out; (first | subst eo48 | (injection eo48 with f1_ f2_ f3_; have f4_ := f1_.symm; have f5_ := f3_.symm; clear f1_ f2_ f3_; subst f4_; subst f5_)); refine norm_ (a' := ?_) ?_ ?_; rotate_left
         ·
          simp only [putAll, Act.put, zzq, zzr, zzs]; rfl
         refine one_ (i := 4) (N := some 40) (zzB 6 31) rfl rfl (by kernel_rfl) (by decide) (fun K hK => ?_); refine Kd.N_append_rows_step k27 (w0 := w) w.heap.size (by rfl) (.tmp 37) (.tmp 39) 39 27 (.agg #[(.bool false), (.bool false), (.int .i64 0), (.int .i64 0), (.int .i64 0), (.slice none 0 0)]) 56 rfl Try.underlying39 info27 rfl (by decide) (by omega) v379 t378 y381 _ _ _ (fun k_ => (w.heap.size ≤ k_) ∧ k_ ≠ gb365) (fun k_ => ((fun k_ => (w.heap.size ≤ k_) ∧ k_ ≠ gb365)) k_ ∧ some k_ ≠ (v379 : Value).ownBlock) rfl rfl ?aO ?aR (fun _ hk => hk) ?aF ?aB ?aS ?aL ?_; (case aR => exact (by skip; exact Kd.N_F (Kd.N_mono (ok' := (fun k_ => ((fun k_ => (w.heap.size ≤ k_) ∧ k_ ≠ gb365)) k_ ∧ some k_ ≠ (v379 : Value).ownBlock)) (HO383.out) (fun k_ hk => ⟨⟨hk.1, hk.2.2⟩, hk.2.1⟩)))); (case aB => exact (by repeat (first | (with_reducible first | exact HB.out | apply zza | apply zzb | apply zzc | refine zzd ?_ GE365.out) | exact HB.out))); (case aF => exact (fun k_ hk => ⟨(Nat.le_trans (zzo (by repeat (first | (with_reducible first | exact HB.out | apply zza | apply zzb | apply zzc | refine zzd ?_ GE365.out) | exact HB.out))) hk), Kd.freshB (g := gb365) (o := .cells #[.bool t369, .bool t370, .int .i64 t371, .int .i64 t372, .int .i64 t373, .slice Ao43 x366005_2.length co43] 27 (0, 0)) (by (with_reducible repeat (first | apply zzf | apply zzg | apply zze)); exact BK365.out) k_ hk⟩)); (case aO => exact (by (with_reducible repeat (first | apply Kd.N_alloc | apply Kd.N_drewN | apply Kd.N_drew)); exact Kd.N_mono HO380.out (fun _ hk => ⟨hk.1, hk.2.2⟩))); (case aS => exact (zzo (by repeat (first | (with_reducible first | exact HB.out | apply zza | apply zzb | apply zzc | refine zzd ?_ GE365.out) | exact HB.out)))); (case aL => have := LMc28.out; omega); intro v385 w47 ho hb hg hat; rw [← Ny384.out] at ho; have n0_ := zzm (blk_grown (g := gb365) (o := .cells #[.bool t369, .bool t370, .int .i64 t371, .int .i64 t372, .int .i64 t373, .slice Ao43 x366005_2.length co43] 27 (0, 0)) (by (with_reducible repeat (first | apply zzf | apply zzg | apply zze)); exact BK365.out) hg (Kd.N_away HO380.out (fun _ hk => hk.2.2))); have n1_ := zzm (Kd.N_afterv (ok := (fun k_ => (w.heap.size ≤ k_) ∧ k_ ≠ gb365)) (by (with_reducible repeat (first | apply Kd.N_alloc | apply Kd.N_drewN | apply Kd.N_drew)); exact Kd.N_mono HO383.out (fun _ hk => ⟨⟨hk.1, hk.2.2⟩, hk.2.1⟩)) hg hat); have n2_ := zzm (hb); have n3_ := zzm (ho); clear BK365; clear HO383; clear HB; clear HO380; have BK365 := n0_; have HO383 := n1_; have HB := n2_; have HO386 := n3_; clear n0_ n1_ n2_ n3_; clear ho hb hg hat; refine hK.out _ _ ⟨(zzk BK365.out 0).trans rfl, (zzk BK365.out 1).trans rfl, (zzk BK365.out 2).trans rfl, (zzk BK365.out 3).trans rfl, (zzk BK365.out 4).trans rfl, (zzk BK365.out 5).trans rfl⟩ (fun hHeld => ?_); clear hK K; refine norm_ (a' := ?_) ?_ ?_; rotate_left
         ·
          show Act.put _ (some 40) _ = _; simp only [Act.put, zzq, zzr, zzs, i64_w, i32_w]; rfl
         refine pure_ (i := 5) (N := some 8) (v := ?_) (a' := ?_) (zzB 6 63) rfl rfl (by kernel_rfl) (fun _ _ _ h => h) (Or.inl ⟨by rfl, ?_⟩) ?_ ?_; rotate_left
         ·
          intro w'; go_simp; with_reducible rfl
         rotate_left
         ·
          simp only [Act.put, zzq, zzr, zzs, i64_w, i32_w]; rfl
         refine done_ (by kernel_rfl) ?_; obtain ⟨Ao49, co49, eo49⟩ := Kd.N_slice HO386.out; subst eo49; try go_wp2_with (first | ((with_reducible refine gate_callee (f := 61) rfl ?_); refine goesL_ (some 42) rfl rfl Try.func61 (by kernel_rfl) rfl #[.slice Ao49 y384.length co49] rfl (by (try simp only [List.map_toArray, List.map_cons, List.map_nil]); first | done | rfl | (simp only [List.length_drop, List.length_take]; rfl)) ?_; (with_reducible refine (impl_LogValid.calls k2 _ _ y384 false _ ?side1 ?side2 A29.out).mono ?_); (case side1 => repeat (first | exact (Kd.N_reads' HO386.out).2.2 | (with_reducible refine Kd.C_alloc ?_ _) | (with_reducible refine Kd.C_drewN ?_ _) | (with_reducible refine Kd.C_drew ?_))); (case side2 => exact (Kd.N_reads' HO386.out).2.1); rintro e w50 ⟨rfl, hb⟩; refine ⟨_, rfl, ?_⟩; have n0_ := zzm (Kd.N_below (by (with_reducible repeat (first | apply Kd.N_alloc | apply Kd.N_drewN | apply Kd.N_drew)); exact HO383.out) hb); have n1_ := zzm (Kd.N_below (by (with_reducible repeat (first | apply Kd.N_alloc | apply Kd.N_drewN | apply Kd.N_drew)); exact HO386.out) hb); have n2_ := zzm (zzh (g := gb365) (o := .cells #[.bool t369, .bool t370, .int .i64 t371, .int .i64 t372, .int .i64 t373, .slice Ao43 x366005_2.length co43] 27 (0, 0)) (by (with_reducible repeat (first | apply zzf | apply zzg | apply zze)); exact BK365.out) hb); have n3_ := zzm (zzp (by repeat (first | (with_reducible first | exact HB.out | apply zza | apply zzb | apply zzc | refine zzd ?_ GE365.out) | exact HB.out)) hb); clear HO383 HO386 BK365 HB; have HO383 := n0_; have HO386 := n1_; have BK365 := n2_; have HB := n3_; clear n0_ n1_ n2_ n3_; (try clear hb); (try clear hb2); (try clear hk); (try clear hi)))
         go_ret2; exact ⟨_, by first | rfl | (simp [errW_none, errW_some] <;> rfl) | (simp [*, errW_none, errW_some] <;> rfl), by first | exact Kd.R_nil _ _ _ _ _ | exact Kd.N_nil _ _ _ _ _ | exact Kd.V_nil _ _ _ _ _ | exact Kd.Q_nil _ _ _ _ _ | exact Kd.S_nil _ _ _ _ _, by repeat (first | (with_reducible first | exact HB.out | apply zza | apply zzb | apply zzc | refine zzd ?_ GE365.out) | exact HB.out)⟩
       ·
        rw [if_neg c28] at H; exact absurd H (by simp)
end Go.Proofs.Yticpnjhkdfdkkaa.T
namespace Go.Proofs.Yticpnjhkdfdkkaa.T
open Go.RowKit Go.Proofs.YticpnjhkdfdkkaaW.PrintWords Go.Proofs.YticpnjhkdfdkkaaW.PrintLast Go.Proofs.YticpnjhkdfdkkaaW.PrintMore
attribute [local go_sem] max2_int max_two
set_option linter.unusedVariables false
set_option linter.unusedSimpArgs false
def laws_FnStableMore.j0 : Nat → List (S27) → Int → Int → Bool → Option (Bool)
 | 0, _, _, _, _ => none
 | k + 1, x3, x4, x5, x24 => if x24 = true then (some (x4 == x5)) else ((impl_LogAppend.f k x3 false false 255 0 0 (([(⟨0, 0, false, ([] : List Int), true, (([1] : List Int))⟩ : S34)] : List (S34)))).bind fun bt400 => (if bt400.2 = true then ((impl_StableEnd.f k bt400.1).bind fun t404 => (some (decide (t404 ≥ x4)))) else (some true)))
def laws_FnStableMore.f (k : Nat) (l0 : List Int) : Option (Bool) := if (l0.length : Int) > 1048576 then (some true) else ((spec_DrawStableEnd.f k l0).bind fun t388 => ((impl_StableEnd.f k t388).bind fun t391 => ((spec_StableEnd.f k t388).bind fun t392 => (if t391 = t392 then (laws_FnStableMore.j0 k t388 t391 t392 (decide (t392 < 0))) else (laws_FnStableMore.j0 k t388 t391 t392 true)))))
set_option maxHeartbeats 8000000 in
set_option maxRecDepth 100000 in
theorem laws_FnStableMore.calls (k : Nat) (A0 : Option Addr) (c0 : Nat) (l0 : List Int) (r : Bool) (w : World) (hr0 : Kd.C (Kd.int .u8) w A0 l0.length l0) (hc0 : l0.length ≤ c0) (h : laws_FnStableMore.f k l0 = some r) :
  Calls Try.prog 10 #[.slice A0 l0.length c0] w fun e w' => e = .returned (.bool r) ∧ Below w.heap.size w w' := by
 have hu34 := Try.underlying34; have hu27 := Try.underlying27; have HR0 := zzm hr0; have HC0 := zzm hc0; clear hr0 hc0; have HB := zzm (Below.refl w.heap.size w); have H : (if (l0.length : Int) > 1048576 then (some true) else ((spec_DrawStableEnd.f k l0).bind fun t388 => ((impl_StableEnd.f k t388).bind fun t391 => ((spec_StableEnd.f k t388).bind fun t392 => (if t391 = t392 then (laws_FnStableMore.j0 k t388 t391 t392 (decide (t392 < 0))) else (laws_FnStableMore.j0 k t388 t391 t392 true)))))) = some r := h; clear h; by_cases c2 : (l0.length : Int) > 1048576
 ·
  rw [if_pos c2] at H; have c2b0 : decide (1048576 < (l0.length : Int)) = true := decide_eq_true c2; have c2b1 : decide (1048576 < l0.length) = true := decide_eq_true (by omega); clear c2; obtain rfl := Option.some.inj H; go_enter Try.func10, Try.ntmps10; go_wp2; go_ret; exact ⟨by first | rfl | (simp [errW_none, errW_some] <;> rfl) | (simp [*, errW_none, errW_some] <;> rfl), zzh1⟩
 ·
  rw [if_neg c2] at H; have c2b0 : decide (1048576 < (l0.length : Int)) = false := decide_eq_false c2; have c2b1 : decide (1048576 < l0.length) = false := decide_eq_false (by omega); clear c2; replace H := Option.bind_eq_some_iff.mp H; obtain ⟨t388, A30, H⟩ := H; replace H : ((impl_StableEnd.f k t388).bind fun t391 => ((spec_StableEnd.f k t388).bind fun t392 => (if t391 = t392 then (laws_FnStableMore.j0 k t388 t391 t392 (decide (t392 < 0))) else (laws_FnStableMore.j0 k t388 t391 t392 true)))) = some r := H; have A3 := zzm A30; clear A30; replace H := Option.bind_eq_some_iff.mp H; obtain ⟨t391, A40, H⟩ := H; replace H : ((spec_StableEnd.f k t388).bind fun t392 => (if t391 = t392 then (laws_FnStableMore.j0 k t388 t391 t392 (decide (t392 < 0))) else (laws_FnStableMore.j0 k t388 t391 t392 true))) = some r := H; have A4 := zzm A40; clear A40; replace H := Option.bind_eq_some_iff.mp H; obtain ⟨t392, A50, H⟩ := H; replace H : (if t391 = t392 then (laws_FnStableMore.j0 k t388 t391 t392 (decide (t392 < 0))) else (laws_FnStableMore.j0 k t388 t391 t392 true)) = some r := H; have A5 := zzm A50; clear A50; have HC6 := zzm H; clear H; go_enter Try.func10, Try.ntmps10; go_upto_region 6 with (first | ((with_reducible refine gate_callee (f := 27) rfl ?_); refine goesL_ (some 13) rfl rfl Try.func27 (by kernel_rfl) rfl #[.slice A0 l0.length c0] rfl (by (try simp only [List.map_toArray, List.map_cons, List.map_nil]); first | done | rfl | (simp only [List.length_drop, List.length_take]; rfl)) ?_; (with_reducible refine (spec_DrawStableEnd.calls k _ _ l0 t388 _ ?side1 ?side2 A3.out).mono ?_); (case side1 => repeat (first | exact HR0.out | (with_reducible refine Kd.C_alloc ?_ _) | (with_reducible refine Kd.C_drewN ?_ _) | (with_reducible refine Kd.C_drew ?_))); (case side2 => exact HC0.out); rintro e w7 ⟨v389, rfl, ho0, hb⟩; refine ⟨_, rfl, ?_⟩; have n0_ := zzm (Kd.N_lower (Kd.N_mono (ok' := fun k_ => True) ho0 (fun k_ hk_ => trivial)) (zzo zzh1)); have n1_ := zzm (zzp zzh1 hb); clear HB; have HO390 := n0_; have HB := n1_; clear n0_ n1_; (try clear hb); (try clear hb2); (try clear hk); (try clear hi); (try clear ho0); obtain ⟨Ao8, co8, eo8⟩ := Kd.N_slice HO390.out; subst eo8) | ((with_reducible refine gate_callee (f := 28) rfl ?_); refine goesL_ (some 15) rfl rfl Try.func28 (by kernel_rfl) rfl #[.slice Ao8 t388.length co8] rfl (by (try simp only [List.map_toArray, List.map_cons, List.map_nil]); first | done | rfl | (simp only [List.length_drop, List.length_take]; rfl)) ?_; (with_reducible refine (impl_StableEnd.calls k _ _ t388 t391 _ ?side1 ?side2 A4.out).mono ?_); (case side1 => repeat (first | exact (Kd.N_reads' HO390.out).2.2 | (with_reducible refine Kd.C_alloc ?_ _) | (with_reducible refine Kd.C_drewN ?_ _) | (with_reducible refine Kd.C_drew ?_))); (case side2 => exact (Kd.N_reads' HO390.out).2.1); rintro e w9 ⟨rfl, hb⟩; refine ⟨_, rfl, ?_⟩; have n0_ := zzm (Kd.N_below (by (with_reducible repeat (first | apply Kd.N_alloc | apply Kd.N_drewN | apply Kd.N_drew)); exact HO390.out) hb); have n1_ := zzm (zzp zzh1 hb); clear HO390 HB; have HO390 := n0_; have HB := n1_; clear n0_ n1_; (try clear hb); (try clear hb2); (try clear hk); (try clear hi)) | ((with_reducible refine gate_callee (f := 29) rfl ?_); refine goesL_ (some 17) rfl rfl Try.func29 (by kernel_rfl) rfl #[.slice Ao8 t388.length co8] rfl (by (try simp only [List.map_toArray, List.map_cons, List.map_nil]); first | done | rfl | (simp only [List.length_drop, List.length_take]; rfl)) ?_; (with_reducible refine (spec_StableEnd.calls k _ _ t388 t392 _ ?side1 ?side2 A5.out).mono ?_); (case side1 => repeat (first | exact (Kd.N_reads' HO390.out).2.2 | (with_reducible refine Kd.C_alloc ?_ _) | (with_reducible refine Kd.C_drewN ?_ _) | (with_reducible refine Kd.C_drew ?_))); (case side2 => exact (Kd.N_reads' HO390.out).2.1); rintro e w10 ⟨rfl, hb⟩; refine ⟨_, rfl, ?_⟩; have n0_ := zzm (Kd.N_below (by (with_reducible repeat (first | apply Kd.N_alloc | apply Kd.N_drewN | apply Kd.N_drew)); exact HO390.out) hb); have n1_ := zzm (zzp zzh1 hb); clear HO390 HB; have HO390 := n0_; have HB := n1_; clear n0_ n1_; (try clear hb); (try clear hb2); (try clear hk); (try clear hi))); (try simp only [Act.put, zzq, zzr, zzs]); go_cut [24] (fun v24 wc => ∃ (kq : Nat) (x24_5 : Bool), v24 = .bool x24_5 ∧ Aside0 (laws_FnStableMore.j0 kq t388 t391 t392 x24_5 = some r) ∧ Aside0 (kq ≤ k) ∧ Aside0 (Kd.N k27 27 wc w.heap.size (fun _ => True) (.slice Ao8 t388.length co8) t388) ∧ Aside0 (Below w.heap.size w wc))
  case first =>
   have H := HC6.out; clear HC6; by_cases c11 : t391 = t392
   ·
    rw [if_pos c11] at H; have c11b0 : (t391 == t392) = true := beq_iff_eq.mpr c11; have c11b1 : (t391 != t392) = false := bne_eq_false_iff_eq.mpr c11; clear c11; (first | rw [c11b0] | (simp only [i64_w, i32_w]; rw [c11b0]) | skip); have H' := zzm H; clear H; go_wp2; go_meet
    case rel => exact ⟨_, (decide (t392 < 0)), (by first | rfl | (simp; done) | (simp [*]; done)), H', ⟨by first | omega | exact Nat.le_refl _⟩, ⟨by (with_reducible repeat (first | apply Kd.N_alloc | apply Kd.N_drewN | apply Kd.N_drew)); exact HO390.out⟩, ⟨zzh1⟩⟩
   ·
    rw [if_neg c11] at H; have c11b0 : (t391 == t392) = false := beq_eq_false_iff_ne.mpr c11; have c11b1 : (t391 != t392) = true := bne_iff_ne.mpr c11; (first | rw [c11b0] | (simp only [i64_w, i32_w]; rw [c11b0]) | skip); have H' := zzm H; clear H; go_wp2; go_meet
    case rel => exact ⟨_, (true), (by first | rfl | (simp; done) | (simp [*]; done)), H', ⟨by first | omega | exact Nat.le_refl _⟩, ⟨by (with_reducible repeat (first | apply Kd.N_alloc | apply Kd.N_drewN | apply Kd.N_drew)); exact HO390.out⟩, ⟨zzh1⟩⟩
  case rest =>
   clear HC6; try clear c1
   try clear c2
   try clear c2b0
   try clear c2b1
   try clear p2
   try clear c10
   try clear c11
   try clear c11b0
   try clear c11b1
   obtain ⟨kq, x24_5, rfl, HA, HJ5, HO_3, HB⟩ := hcut; cases kq with
   | zero => exact absurd HA.out (by simp [laws_FnStableMore.j0])
   | succ kj5 =>
    have H := HA.out; clear HA; simp only [laws_FnStableMore.j0] at H; by_cases c12 : x24_5 = true
    ·
     subst c12; have H1 : (some (t391 == t392)) = some r := by rw [if_pos rfl] at H; exact H
     clear H; have H := H1; clear H1; obtain rfl := Option.some.inj H; go_wp2; go_ret; exact ⟨by first | rfl | (simp [errW_none, errW_some] <;> rfl) | (simp [*, errW_none, errW_some] <;> rfl), zzh1⟩
    ·
     replace c12 := Bool.eq_false_iff.mpr c12; subst c12; have H1 : ((impl_LogAppend.f kj5 t388 false false 255 0 0 (([(⟨0, 0, false, ([] : List Int), true, (([1] : List Int))⟩ : S34)] : List (S34)))).bind fun bt400 => (if bt400.2 = true then ((impl_StableEnd.f kj5 bt400.1).bind fun t404 => (some (decide (t404 ≥ t391)))) else (some true))) = some r := by rw [if_neg (show ¬ (false = true) by decide)] at H; exact H
     clear H; have H := H1; clear H1; obtain ⟨y393, hy393⟩ : ∃ y_ : List Int, y_ = (([1] : List Int)) := ⟨_, rfl⟩; replace H : ((impl_LogAppend.f kj5 t388 false false 255 0 0 (([(⟨0, 0, false, ([] : List Int), true, y393⟩ : S34)] : List (S34)))).bind fun bt400 => (if bt400.2 = true then ((impl_StableEnd.f kj5 bt400.1).bind fun t404 => (some (decide (t404 ≥ t391)))) else (some true))) = some r := by first | (rw [hy393]; with_reducible exact H) | (have H2_ := (Option.bind_some _ _).symm.trans H; rw [hy393]; with_reducible exact H2_) | (have H2_ := (Option.bind_some _ _).symm.trans H; with_reducible exact H2_) | with_reducible exact H | (rw [hy393]; exact H) | exact H
     have Ny393 := zzm hy393; clear hy393; obtain ⟨y396, hy396⟩ : ∃ y_ : List (S34), y_ = (([(⟨0, 0, false, ([] : List Int), true, y393⟩ : S34)] : List (S34))) := ⟨_, rfl⟩; replace H : ((impl_LogAppend.f kj5 t388 false false 255 0 0 y396).bind fun bt400 => (if bt400.2 = true then ((impl_StableEnd.f kj5 bt400.1).bind fun t404 => (some (decide (t404 ≥ t391)))) else (some true))) = some r := by first | (rw [hy396]; with_reducible exact H) | (have H2_ := (Option.bind_some _ _).symm.trans H; rw [hy396]; with_reducible exact H2_) | (have H2_ := (Option.bind_some _ _).symm.trans H; with_reducible exact H2_) | with_reducible exact H | (rw [hy396]; exact H) | exact H
     have Ny396 := zzm hy396; clear hy396; replace H := Option.bind_eq_some_iff.mp H; obtain ⟨⟨t400, t403⟩, A130, H⟩ := H; replace H : (if t403 = true then ((impl_StableEnd.f kj5 t400).bind fun t404 => (some (decide (t404 ≥ t391)))) else (some true)) = some r := H; have A13 := zzm A130; clear A130; by_cases c14 : t403 = true
     ·
      subst c14; have H1 : ((impl_StableEnd.f kj5 t400).bind fun t404 => (some (decide (t404 ≥ t391)))) = some r := by rw [if_pos rfl] at H; exact H
      clear H; have H := H1; clear H1; replace H := Option.bind_eq_some_iff.mp H; obtain ⟨t404, A150, H⟩ := H; replace H : (some (decide (t404 ≥ t391))) = some r := H; have A15 := zzm A150; clear A150; obtain rfl := Option.some.inj H; go_wp2_with (first | ((with_reducible refine gate_dst (N := 28) rfl ?_); refine Kd.R_lit (Kd.int .i64) _ 3 ?hg (N := 28) ?hd (xs := ([1] : List Int)) (inner := [.int .i64 1]) (ok := fun _ => True) (okp := fun _ => True) ?hr ?hp (fun _ hk => hk) trivial (Below.refl _ _) (Nat.le_refl _) (by simp) ?_; (case hd => rfl); (case hg => rfl); (case hr => first | (go_simp; done) | (go_simp; rfl)); (case hp => exact (Reps.one (show Kd.M (Kd.int .i64) _ _ _ 1 [.int .i64 1] from rfl) (Reps.none _ _))); intro v394 w16 ho17 hb hg_ hnew_; clear hg_ hnew_; (first | rw [← Ny393.out] at ho17 | (simp only [Int.reduceToNat] at ho17; rw [← Ny393.out] at ho17)); have n0_ := zzm (Kd.N_elder' (by (with_reducible repeat (first | apply Kd.N_alloc | apply Kd.N_drewN | apply Kd.N_drew)); exact HO_3.out) (Kd.R_base ho17) hb); have n1_ := zzm (Kd.R_lower ho17 (zzo zzh1)); have n2_ := zzm (zzp zzh1 hb); clear HO_3 HB; have HO_3 := n0_; have HO395 := n1_; have HB := n2_; clear n0_ n1_ n2_ hb ho17; obtain ⟨Ao18, co18, eo18⟩ := Kd.R_slice HO395.out; subst eo18) | ((with_reducible refine gate_dst (N := 30) rfl ?_); refine Kd.N_lit k34 _ 34 ?hg (N' := 30) ?hd (xs := ([(⟨0, 0, false, ([] : List Int), true, y393⟩ : S34)] : List (S34))) (inner := [.int .i64 0, .int .i64 0, .bool false, .slice none 0 0, .bool true, .slice Ao18 y393.length co18]) (ok := (fun k_ => some k_ ≠ (.slice Ao8 t388.length co8 : Value).ownBlock)) (okp := (fun k_ => some k_ ≠ (.slice Ao8 t388.length co8 : Value).ownBlock)) ?hr ?hp (fun _ hk => hk) ((show ∀ k_, w16.heap.size ≤ k_ → (fun k_ => some k_ ≠ (.slice Ao8 t388.length co8 : Value).ownBlock) k_ from fun k_ hk => Kd.fresh' (Kd.N_lt (by (with_reducible repeat (first | apply Kd.N_alloc | apply Kd.N_drewN | apply Kd.N_drew)); exact HO_3.out)) k_ hk) _ (Nat.le_refl _)) (Below.refl _ _) (Nat.le_refl _) (by simp) ?_; (case hd => rfl); (case hg => rfl); (case hr => first | (go_simp; done) | (go_simp; rfl)); (case hp => exact (Reps.c6 (show Kd.FK k34 _ _ (⟨0, 0, false, ([] : List Int), true, y393⟩ : S34) [.int .i64 0, .int .i64 0, .bool false, .slice none 0 0, .bool true, .slice Ao18 y393.length co18] from (k34_mkF _ _ (⟨0, 0, false, ([] : List Int), true, y393⟩ : S34) (Nat.le_refl _) (Kd.F_nil _ _ _) (Kd.R_reads' (Kd.R_mono (ok' := (fun k_ => some k_ ≠ (.slice Ao8 t388.length co8 : Value).ownBlock)) (Kd.R_apart' (HO395.out) (Kd.N_typed HO_3.out) (by decide)) (fun k_ hk => hk.2))).2.1 (Kd.R_F (Kd.R_mono (ok' := (fun k_ => some k_ ≠ (.slice Ao8 t388.length co8 : Value).ownBlock)) (Kd.R_apart' (HO395.out) (Kd.N_typed HO_3.out) (by decide)) (fun k_ hk => hk.2))))) (Reps.none _ _))); intro v397 w19 ho20 hb hg_ hnew_; clear hg_ hnew_; (first | rw [← Ny396.out] at ho20 | (simp only [Int.reduceToNat] at ho20; rw [← Ny396.out] at ho20)); have n0_ := zzm (Kd.N_elder' (by (with_reducible repeat (first | apply Kd.N_alloc | apply Kd.N_drewN | apply Kd.N_drew)); exact HO_3.out) (Kd.N_base ho20) hb); have n1_ := zzm (Kd.N_lower ho20 (zzo zzh1)); have n2_ := zzm (zzp zzh1 hb); clear HO_3 HB HO395; have HO_3 := n0_; have HO398 := n1_; have HB := n2_; clear n0_ n1_ n2_ hb ho20; obtain ⟨Ao21, co21, eo21⟩ := Kd.N_slice HO398.out; subst eo21) | ((with_reducible refine gate_dst (N := 6) rfl ?_); refine box_event ?hg (N := 6) ?hd (cs := #[.bool false, .bool false, .int .i64 0, .int .i64 0, .int .i64 0, .slice none 0 0]) (t := 27) ?hr ?_; (case hd => rfl); (case hg => rfl); (case hr => first | (go_simp; done) | (go_simp; rfl)); intro gb399 hg w22 hbox hb; have n0_ := zzm (Kd.N_below (Kd.N_elderB (by (with_reducible repeat (first | apply Kd.N_alloc | apply Kd.N_drewN | apply Kd.N_drew)); exact HO_3.out) gb399 (Nat.le_of_eq hg.symm)) hb); have n1_ := zzm (Kd.N_below (Kd.N_elderB (by (with_reducible repeat (first | apply Kd.N_alloc | apply Kd.N_drewN | apply Kd.N_drew)); exact HO398.out) gb399 (Nat.le_of_eq hg.symm)) hb); have n2_ := zzm (zzp zzh1 hb); have n3_ := zzm (hbox); have n4_ := zzm ((by rw [hg]; exact (zzo zzh1) : w.heap.size ≤ gb399)); have n5_ := zzm ((by rw [hg]; exact (zzo zzh1) : w.heap.size ≤ gb399)); clear HO_3 HO398 HB; have HO_3 := n0_; have HO398 := n1_; have HB := n2_; have BK399 := n3_; have GW399 := n4_; have GE399 := n5_; clear n0_ n1_ n2_ n3_ n4_ n5_ hb hbox hg; obtain ⟨hcz23_0, hcz23_1, hcz23_2, hcz23_3, hcz23_4, hcz23_5, hfz23_0, hfz23_1, hfz23_2, hfz23_3, hfz23_4, hfz23_5⟩ := zzc6 BK399.out) | ((with_reducible refine gate_callee (f := 35) rfl ?_); refine goesL_ (some 35) rfl rfl Try.func35 (by kernel_rfl) rfl #[.slice Ao8 t388.length co8, .agg #[.bool false, .bool false, .int .i64 255, .int .i64 0, .int .i64 0, .slice Ao21 y396.length co21]] rfl (by (try simp only [List.map_toArray, List.map_cons, List.map_nil]); first | done | rfl | (simp only [List.length_drop, List.length_take]; rfl)) ?_; (with_reducible refine (impl_LogAppend.calls kj5 _ _ t388 false false 255 0 0 _ _ y396 t400 true _ ?side1 ?side2 ?side3 ?side4 A13.out).mono ?_); (case side1 => refine (Kd.N_reads' (e := 27) (base := w.heap.size) (ok := fun k_ => (((True ∧ some k_ ≠ (.slice Ao18 y393.length co18 : Value).ownBlock) ∧ some k_ ≠ (.slice Ao21 y396.length co21 : Value).ownBlock) ∧ k_ ≠ gb399)) (n := t388.length) (c := co8) ?_).2.2; exact (by (with_reducible repeat (first | apply Kd.N_alloc | apply Kd.N_drewN | apply Kd.N_drew)); exact (Kd.N_mono (Kd.N_far (p := ⟨gb399, 5, none⟩) (Kd.N_far (p := ⟨gb399, 4, none⟩) (Kd.N_far (p := ⟨gb399, 3, none⟩) (Kd.N_far (p := ⟨gb399, 2, none⟩) (Kd.N_far (p := ⟨gb399, 1, none⟩) (Kd.N_far (p := ⟨gb399, 0, none⟩) (Kd.N_mono HO_3.out (fun k_ hk => (⟨hk, hk.2⟩ : _ ∧ k_ ≠ gb399))) (fun _ hk => hk.2) (.bool false)) (fun _ hk => hk.2) (.bool false)) (fun _ hk => hk.2) (.int .i64 255)) (fun _ hk => hk.2) (.int .i64 0)) (fun _ hk => hk.2) (.int .i64 0)) (fun _ hk => hk.2) (.slice Ao21 y396.length co21)) (fun _ h_ => h_.1)))); (case side2 => exact (Kd.N_reads' HO_3.out).2.1); (case side3 => refine (Kd.N_reads' (e := 34) (base := w.heap.size) (ok := fun k_ => (some k_ ≠ (.slice Ao8 t388.length co8 : Value).ownBlock ∧ k_ ≠ gb399)) (n := y396.length) (c := co21) ?_).2.2; exact (by (with_reducible repeat (first | apply Kd.N_alloc | apply Kd.N_drewN | apply Kd.N_drew)); exact (Kd.N_mono (Kd.N_far (p := ⟨gb399, 5, none⟩) (Kd.N_far (p := ⟨gb399, 4, none⟩) (Kd.N_far (p := ⟨gb399, 3, none⟩) (Kd.N_far (p := ⟨gb399, 2, none⟩) (Kd.N_far (p := ⟨gb399, 1, none⟩) (Kd.N_far (p := ⟨gb399, 0, none⟩) (Kd.N_mono HO398.out (fun k_ hk => (⟨hk, hk.2⟩ : _ ∧ k_ ≠ gb399))) (fun _ hk => hk.2) (.bool false)) (fun _ hk => hk.2) (.bool false)) (fun _ hk => hk.2) (.int .i64 255)) (fun _ hk => hk.2) (.int .i64 0)) (fun _ hk => hk.2) (.int .i64 0)) (fun _ hk => hk.2) (.slice Ao21 y396.length co21)) (fun _ h_ => h_.1)))); (case side4 => exact (Kd.N_reads' HO398.out).2.1); rintro e w24 ⟨v401, rfl, ho0, hb⟩; refine ⟨_, rfl, ?_⟩; have n0_ := zzm (Kd.N_elder' (by (with_reducible repeat (first | apply Kd.N_alloc | apply Kd.N_drewN | apply Kd.N_drew)); exact (Kd.N_mono (Kd.N_far (p := ⟨gb399, 5, none⟩) (Kd.N_far (p := ⟨gb399, 4, none⟩) (Kd.N_far (p := ⟨gb399, 3, none⟩) (Kd.N_far (p := ⟨gb399, 2, none⟩) (Kd.N_far (p := ⟨gb399, 1, none⟩) (Kd.N_far (p := ⟨gb399, 0, none⟩) (Kd.N_mono HO_3.out (fun k_ hk => (⟨hk, hk.2⟩ : _ ∧ k_ ≠ gb399))) (fun _ hk => hk.2) (.bool false)) (fun _ hk => hk.2) (.bool false)) (fun _ hk => hk.2) (.int .i64 255)) (fun _ hk => hk.2) (.int .i64 0)) (fun _ hk => hk.2) (.int .i64 0)) (fun _ hk => hk.2) (.slice Ao21 y396.length co21)) (fun _ h_ => h_.1))) (Kd.N_base ho0) hb); have n1_ := zzm (Kd.N_elder' (by (with_reducible repeat (first | apply Kd.N_alloc | apply Kd.N_drewN | apply Kd.N_drew)); exact (Kd.N_mono (Kd.N_far (p := ⟨gb399, 5, none⟩) (Kd.N_far (p := ⟨gb399, 4, none⟩) (Kd.N_far (p := ⟨gb399, 3, none⟩) (Kd.N_far (p := ⟨gb399, 2, none⟩) (Kd.N_far (p := ⟨gb399, 1, none⟩) (Kd.N_far (p := ⟨gb399, 0, none⟩) (Kd.N_mono HO398.out (fun k_ hk => (⟨hk, hk.2⟩ : _ ∧ k_ ≠ gb399))) (fun _ hk => hk.2) (.bool false)) (fun _ hk => hk.2) (.bool false)) (fun _ hk => hk.2) (.int .i64 255)) (fun _ hk => hk.2) (.int .i64 0)) (fun _ hk => hk.2) (.int .i64 0)) (fun _ hk => hk.2) (.slice Ao21 y396.length co21)) (fun _ h_ => h_.1))) (Kd.N_base ho0) hb); have n2_ := zzm (Kd.N_lower (Kd.N_mono (ok' := fun k_ => some k_ ≠ (.slice Ao8 t388.length co8 : Value).ownBlock ∧ some k_ ≠ (.slice Ao21 y396.length co21 : Value).ownBlock ∧ k_ ≠ gb399) ho0 (fun k_ hk_ => ⟨(Kd.fresh' (Kd.N_lt (by (with_reducible repeat (first | apply Kd.N_alloc | apply Kd.N_drewN | apply Kd.N_drew)); exact (Kd.N_mono (Kd.N_far (p := ⟨gb399, 5, none⟩) (Kd.N_far (p := ⟨gb399, 4, none⟩) (Kd.N_far (p := ⟨gb399, 3, none⟩) (Kd.N_far (p := ⟨gb399, 2, none⟩) (Kd.N_far (p := ⟨gb399, 1, none⟩) (Kd.N_far (p := ⟨gb399, 0, none⟩) (Kd.N_mono HO_3.out (fun k_ hk => (⟨hk, hk.2⟩ : _ ∧ k_ ≠ gb399))) (fun _ hk => hk.2) (.bool false)) (fun _ hk => hk.2) (.bool false)) (fun _ hk => hk.2) (.int .i64 255)) (fun _ hk => hk.2) (.int .i64 0)) (fun _ hk => hk.2) (.int .i64 0)) (fun _ hk => hk.2) (.slice Ao21 y396.length co21)) (fun _ h_ => h_.1)))) k_ hk_), (Kd.fresh' (Kd.N_lt (by (with_reducible repeat (first | apply Kd.N_alloc | apply Kd.N_drewN | apply Kd.N_drew)); exact (Kd.N_mono (Kd.N_far (p := ⟨gb399, 5, none⟩) (Kd.N_far (p := ⟨gb399, 4, none⟩) (Kd.N_far (p := ⟨gb399, 3, none⟩) (Kd.N_far (p := ⟨gb399, 2, none⟩) (Kd.N_far (p := ⟨gb399, 1, none⟩) (Kd.N_far (p := ⟨gb399, 0, none⟩) (Kd.N_mono HO398.out (fun k_ hk => (⟨hk, hk.2⟩ : _ ∧ k_ ≠ gb399))) (fun _ hk => hk.2) (.bool false)) (fun _ hk => hk.2) (.bool false)) (fun _ hk => hk.2) (.int .i64 255)) (fun _ hk => hk.2) (.int .i64 0)) (fun _ hk => hk.2) (.int .i64 0)) (fun _ hk => hk.2) (.slice Ao21 y396.length co21)) (fun _ h_ => h_.1)))) k_ hk_), (Kd.freshB (g := gb399) (o := .cells #[.bool false, .bool false, .int .i64 255, .int .i64 0, .int .i64 0, .slice Ao21 y396.length co21] 27 (0, 0)) (by (with_reducible repeat (first | apply zzf | apply zzg | apply zze)); refine zzi (cs := #[.bool false, .bool false, .int .i64 255, .int .i64 0, .int .i64 0, .slice none 0 0]) ?_ 5 _ rfl; (with_reducible repeat (first | apply zzf | apply zzg | apply zze)); refine zzi (cs := #[.bool false, .bool false, .int .i64 255, .int .i64 0, .int .i64 0, .slice none 0 0]) ?_ 4 _ rfl; (with_reducible repeat (first | apply zzf | apply zzg | apply zze)); refine zzi (cs := #[.bool false, .bool false, .int .i64 255, .int .i64 0, .int .i64 0, .slice none 0 0]) ?_ 3 _ rfl; (with_reducible repeat (first | apply zzf | apply zzg | apply zze)); refine zzi (cs := #[.bool false, .bool false, .int .i64 0, .int .i64 0, .int .i64 0, .slice none 0 0]) ?_ 2 _ rfl; (with_reducible repeat (first | apply zzf | apply zzg | apply zze)); refine zzi (cs := #[.bool false, .bool false, .int .i64 0, .int .i64 0, .int .i64 0, .slice none 0 0]) ?_ 1 _ rfl; (with_reducible repeat (first | apply zzf | apply zzg | apply zze)); refine zzi (cs := #[.bool false, .bool false, .int .i64 0, .int .i64 0, .int .i64 0, .slice none 0 0]) ?_ 0 _ rfl; (with_reducible repeat (first | apply zzf | apply zzg | apply zze)); exact BK399.out) k_ hk_)⟩)) (zzo (by repeat (first | (with_reducible first | exact HB.out | apply zza | apply zzb | apply zzc | refine zzd ?_ GE399.out) | exact HB.out)))); have n3_ := zzm (zzh (g := gb399) (o := .cells #[.bool false, .bool false, .int .i64 255, .int .i64 0, .int .i64 0, .slice Ao21 y396.length co21] 27 (0, 0)) (by (with_reducible repeat (first | apply zzf | apply zzg | apply zze)); refine zzi (cs := #[.bool false, .bool false, .int .i64 255, .int .i64 0, .int .i64 0, .slice none 0 0]) ?_ 5 _ rfl; (with_reducible repeat (first | apply zzf | apply zzg | apply zze)); refine zzi (cs := #[.bool false, .bool false, .int .i64 255, .int .i64 0, .int .i64 0, .slice none 0 0]) ?_ 4 _ rfl; (with_reducible repeat (first | apply zzf | apply zzg | apply zze)); refine zzi (cs := #[.bool false, .bool false, .int .i64 255, .int .i64 0, .int .i64 0, .slice none 0 0]) ?_ 3 _ rfl; (with_reducible repeat (first | apply zzf | apply zzg | apply zze)); refine zzi (cs := #[.bool false, .bool false, .int .i64 0, .int .i64 0, .int .i64 0, .slice none 0 0]) ?_ 2 _ rfl; (with_reducible repeat (first | apply zzf | apply zzg | apply zze)); refine zzi (cs := #[.bool false, .bool false, .int .i64 0, .int .i64 0, .int .i64 0, .slice none 0 0]) ?_ 1 _ rfl; (with_reducible repeat (first | apply zzf | apply zzg | apply zze)); refine zzi (cs := #[.bool false, .bool false, .int .i64 0, .int .i64 0, .int .i64 0, .slice none 0 0]) ?_ 0 _ rfl; (with_reducible repeat (first | apply zzf | apply zzg | apply zze)); exact BK399.out) hb); have n4_ := zzm (zzp (by repeat (first | (with_reducible first | exact HB.out | apply zza | apply zzb | apply zzc | refine zzd ?_ GE399.out) | exact HB.out)) hb); clear HO_3 HO398 BK399 HB; have HO_3 := n0_; have HO398 := n1_; have HO402 := n2_; have BK399 := n3_; have HB := n4_; clear n0_ n1_ n2_ n3_ n4_; (try clear hb); (try clear hb2); (try clear hk); (try clear hi); (try clear ho0); obtain ⟨Ao25, co25, eo25⟩ := Kd.N_slice HO402.out; subst eo25) | (go_at_call 28; (with_reducible refine (impl_StableEnd.calls kj5 _ _ t400 t404 _ ?side1 ?side2 A15.out).mono ?_); (case side1 => repeat (first | exact (Kd.N_reads' HO402.out).2.2 | (with_reducible refine Kd.C_alloc ?_ _) | (with_reducible refine Kd.C_drewN ?_ _) | (with_reducible refine Kd.C_drew ?_))); (case side2 => exact (Kd.N_reads' HO402.out).2.1); rintro e w26 ⟨rfl, hb⟩; have n0_ := zzm (Kd.N_below (by (with_reducible repeat (first | apply Kd.N_alloc | apply Kd.N_drewN | apply Kd.N_drew)); exact HO_3.out) hb); have n1_ := zzm (Kd.N_below (by (with_reducible repeat (first | apply Kd.N_alloc | apply Kd.N_drewN | apply Kd.N_drew)); exact HO398.out) hb); have n2_ := zzm (Kd.N_below (by (with_reducible repeat (first | apply Kd.N_alloc | apply Kd.N_drewN | apply Kd.N_drew)); exact HO402.out) hb); have n3_ := zzm (zzh (g := gb399) (o := .cells #[.bool false, .bool false, .int .i64 255, .int .i64 0, .int .i64 0, .slice Ao21 y396.length co21] 27 (0, 0)) (by (with_reducible repeat (first | apply zzf | apply zzg | apply zze)); exact BK399.out) hb); have n4_ := zzm (zzp (by repeat (first | (with_reducible first | exact HB.out | apply zza | apply zzb | apply zzc | refine zzd ?_ GE399.out) | exact HB.out)) hb); clear HO_3 HO398 HO402 BK399 HB; have HO_3 := n0_; have HO398 := n1_; have HO402 := n2_; have BK399 := n3_; have HB := n4_; clear n0_ n1_ n2_ n3_ n4_; (try clear hb); (try clear hb2); (try clear hk); (try clear hi))); go_ret; exact ⟨by first | rfl | (simp [errW_none, errW_some] <;> rfl) | (simp [*, errW_none, errW_some] <;> rfl), by repeat (first | (with_reducible first | exact HB.out | apply zza | apply zzb | apply zzc | refine zzd ?_ GE399.out) | exact HB.out)⟩
     ·
      replace c14 := Bool.eq_false_iff.mpr c14; subst c14; have H1 : (some true) = some r := by rw [if_neg (show ¬ (false = true) by decide)] at H; exact H
      clear H; have H := H1; clear H1; obtain rfl := Option.some.inj H; go_wp2_with (first | ((with_reducible refine gate_dst (N := 28) rfl ?_); refine Kd.R_lit (Kd.int .i64) _ 3 ?hg (N := 28) ?hd (xs := ([1] : List Int)) (inner := [.int .i64 1]) (ok := fun _ => True) (okp := fun _ => True) ?hr ?hp (fun _ hk => hk) trivial (Below.refl _ _) (Nat.le_refl _) (by simp) ?_; (case hd => rfl); (case hg => rfl); (case hr => first | (go_simp; done) | (go_simp; rfl)); (case hp => exact (Reps.one (show Kd.M (Kd.int .i64) _ _ _ 1 [.int .i64 1] from rfl) (Reps.none _ _))); intro v394 w27 ho28 hb hg_ hnew_; clear hg_ hnew_; (first | rw [← Ny393.out] at ho28 | (simp only [Int.reduceToNat] at ho28; rw [← Ny393.out] at ho28)); have n0_ := zzm (Kd.N_elder' (by (with_reducible repeat (first | apply Kd.N_alloc | apply Kd.N_drewN | apply Kd.N_drew)); exact HO_3.out) (Kd.R_base ho28) hb); have n1_ := zzm (Kd.R_lower ho28 (zzo zzh1)); have n2_ := zzm (zzp zzh1 hb); clear HO_3 HB; have HO_3 := n0_; have HO395 := n1_; have HB := n2_; clear n0_ n1_ n2_ hb ho28; obtain ⟨Ao29, co29, eo29⟩ := Kd.R_slice HO395.out; subst eo29) | ((with_reducible refine gate_dst (N := 30) rfl ?_); refine Kd.N_lit k34 _ 34 ?hg (N' := 30) ?hd (xs := ([(⟨0, 0, false, ([] : List Int), true, y393⟩ : S34)] : List (S34))) (inner := [.int .i64 0, .int .i64 0, .bool false, .slice none 0 0, .bool true, .slice Ao29 y393.length co29]) (ok := (fun k_ => some k_ ≠ (.slice Ao8 t388.length co8 : Value).ownBlock)) (okp := (fun k_ => some k_ ≠ (.slice Ao8 t388.length co8 : Value).ownBlock)) ?hr ?hp (fun _ hk => hk) ((show ∀ k_, w27.heap.size ≤ k_ → (fun k_ => some k_ ≠ (.slice Ao8 t388.length co8 : Value).ownBlock) k_ from fun k_ hk => Kd.fresh' (Kd.N_lt (by (with_reducible repeat (first | apply Kd.N_alloc | apply Kd.N_drewN | apply Kd.N_drew)); exact HO_3.out)) k_ hk) _ (Nat.le_refl _)) (Below.refl _ _) (Nat.le_refl _) (by simp) ?_; (case hd => rfl); (case hg => rfl); (case hr => first | (go_simp; done) | (go_simp; rfl)); (case hp => exact (Reps.c6 (show Kd.FK k34 _ _ (⟨0, 0, false, ([] : List Int), true, y393⟩ : S34) [.int .i64 0, .int .i64 0, .bool false, .slice none 0 0, .bool true, .slice Ao29 y393.length co29] from (k34_mkF _ _ (⟨0, 0, false, ([] : List Int), true, y393⟩ : S34) (Nat.le_refl _) (Kd.F_nil _ _ _) (Kd.R_reads' (Kd.R_mono (ok' := (fun k_ => some k_ ≠ (.slice Ao8 t388.length co8 : Value).ownBlock)) (Kd.R_apart' (HO395.out) (Kd.N_typed HO_3.out) (by decide)) (fun k_ hk => hk.2))).2.1 (Kd.R_F (Kd.R_mono (ok' := (fun k_ => some k_ ≠ (.slice Ao8 t388.length co8 : Value).ownBlock)) (Kd.R_apart' (HO395.out) (Kd.N_typed HO_3.out) (by decide)) (fun k_ hk => hk.2))))) (Reps.none _ _))); intro v397 w30 ho31 hb hg_ hnew_; clear hg_ hnew_; (first | rw [← Ny396.out] at ho31 | (simp only [Int.reduceToNat] at ho31; rw [← Ny396.out] at ho31)); have n0_ := zzm (Kd.N_elder' (by (with_reducible repeat (first | apply Kd.N_alloc | apply Kd.N_drewN | apply Kd.N_drew)); exact HO_3.out) (Kd.N_base ho31) hb); have n1_ := zzm (Kd.N_lower ho31 (zzo zzh1)); have n2_ := zzm (zzp zzh1 hb); clear HO_3 HB HO395; have HO_3 := n0_; have HO398 := n1_; have HB := n2_; clear n0_ n1_ n2_ hb ho31; obtain ⟨Ao32, co32, eo32⟩ := Kd.N_slice HO398.out; subst eo32) | ((with_reducible refine gate_dst (N := 6) rfl ?_); refine box_event ?hg (N := 6) ?hd (cs := #[.bool false, .bool false, .int .i64 0, .int .i64 0, .int .i64 0, .slice none 0 0]) (t := 27) ?hr ?_; (case hd => rfl); (case hg => rfl); (case hr => first | (go_simp; done) | (go_simp; rfl)); intro gb399 hg w33 hbox hb; have n0_ := zzm (Kd.N_below (Kd.N_elderB (by (with_reducible repeat (first | apply Kd.N_alloc | apply Kd.N_drewN | apply Kd.N_drew)); exact HO_3.out) gb399 (Nat.le_of_eq hg.symm)) hb); have n1_ := zzm (Kd.N_below (Kd.N_elderB (by (with_reducible repeat (first | apply Kd.N_alloc | apply Kd.N_drewN | apply Kd.N_drew)); exact HO398.out) gb399 (Nat.le_of_eq hg.symm)) hb); have n2_ := zzm (zzp zzh1 hb); have n3_ := zzm (hbox); have n4_ := zzm ((by rw [hg]; exact (zzo zzh1) : w.heap.size ≤ gb399)); have n5_ := zzm ((by rw [hg]; exact (zzo zzh1) : w.heap.size ≤ gb399)); clear HO_3 HO398 HB; have HO_3 := n0_; have HO398 := n1_; have HB := n2_; have BK399 := n3_; have GW399 := n4_; have GE399 := n5_; clear n0_ n1_ n2_ n3_ n4_ n5_ hb hbox hg; obtain ⟨hcz34_0, hcz34_1, hcz34_2, hcz34_3, hcz34_4, hcz34_5, hfz34_0, hfz34_1, hfz34_2, hfz34_3, hfz34_4, hfz34_5⟩ := zzc6 BK399.out) | ((with_reducible refine gate_callee (f := 35) rfl ?_); refine goesL_ (some 35) rfl rfl Try.func35 (by kernel_rfl) rfl #[.slice Ao8 t388.length co8, .agg #[.bool false, .bool false, .int .i64 255, .int .i64 0, .int .i64 0, .slice Ao32 y396.length co32]] rfl (by (try simp only [List.map_toArray, List.map_cons, List.map_nil]); first | done | rfl | (simp only [List.length_drop, List.length_take]; rfl)) ?_; (with_reducible refine (impl_LogAppend.calls kj5 _ _ t388 false false 255 0 0 _ _ y396 t400 false _ ?side1 ?side2 ?side3 ?side4 A13.out).mono ?_); (case side1 => refine (Kd.N_reads' (e := 27) (base := w.heap.size) (ok := fun k_ => (((True ∧ some k_ ≠ (.slice Ao29 y393.length co29 : Value).ownBlock) ∧ some k_ ≠ (.slice Ao32 y396.length co32 : Value).ownBlock) ∧ k_ ≠ gb399)) (n := t388.length) (c := co8) ?_).2.2; exact (by (with_reducible repeat (first | apply Kd.N_alloc | apply Kd.N_drewN | apply Kd.N_drew)); exact (Kd.N_mono (Kd.N_far (p := ⟨gb399, 5, none⟩) (Kd.N_far (p := ⟨gb399, 4, none⟩) (Kd.N_far (p := ⟨gb399, 3, none⟩) (Kd.N_far (p := ⟨gb399, 2, none⟩) (Kd.N_far (p := ⟨gb399, 1, none⟩) (Kd.N_far (p := ⟨gb399, 0, none⟩) (Kd.N_mono HO_3.out (fun k_ hk => (⟨hk, hk.2⟩ : _ ∧ k_ ≠ gb399))) (fun _ hk => hk.2) (.bool false)) (fun _ hk => hk.2) (.bool false)) (fun _ hk => hk.2) (.int .i64 255)) (fun _ hk => hk.2) (.int .i64 0)) (fun _ hk => hk.2) (.int .i64 0)) (fun _ hk => hk.2) (.slice Ao32 y396.length co32)) (fun _ h_ => h_.1)))); (case side2 => exact (Kd.N_reads' HO_3.out).2.1); (case side3 => refine (Kd.N_reads' (e := 34) (base := w.heap.size) (ok := fun k_ => (some k_ ≠ (.slice Ao8 t388.length co8 : Value).ownBlock ∧ k_ ≠ gb399)) (n := y396.length) (c := co32) ?_).2.2; exact (by (with_reducible repeat (first | apply Kd.N_alloc | apply Kd.N_drewN | apply Kd.N_drew)); exact (Kd.N_mono (Kd.N_far (p := ⟨gb399, 5, none⟩) (Kd.N_far (p := ⟨gb399, 4, none⟩) (Kd.N_far (p := ⟨gb399, 3, none⟩) (Kd.N_far (p := ⟨gb399, 2, none⟩) (Kd.N_far (p := ⟨gb399, 1, none⟩) (Kd.N_far (p := ⟨gb399, 0, none⟩) (Kd.N_mono HO398.out (fun k_ hk => (⟨hk, hk.2⟩ : _ ∧ k_ ≠ gb399))) (fun _ hk => hk.2) (.bool false)) (fun _ hk => hk.2) (.bool false)) (fun _ hk => hk.2) (.int .i64 255)) (fun _ hk => hk.2) (.int .i64 0)) (fun _ hk => hk.2) (.int .i64 0)) (fun _ hk => hk.2) (.slice Ao32 y396.length co32)) (fun _ h_ => h_.1)))); (case side4 => exact (Kd.N_reads' HO398.out).2.1); rintro e w35 ⟨v401, rfl, ho0, hb⟩; refine ⟨_, rfl, ?_⟩; have n0_ := zzm (Kd.N_elder' (by (with_reducible repeat (first | apply Kd.N_alloc | apply Kd.N_drewN | apply Kd.N_drew)); exact (Kd.N_mono (Kd.N_far (p := ⟨gb399, 5, none⟩) (Kd.N_far (p := ⟨gb399, 4, none⟩) (Kd.N_far (p := ⟨gb399, 3, none⟩) (Kd.N_far (p := ⟨gb399, 2, none⟩) (Kd.N_far (p := ⟨gb399, 1, none⟩) (Kd.N_far (p := ⟨gb399, 0, none⟩) (Kd.N_mono HO_3.out (fun k_ hk => (⟨hk, hk.2⟩ : _ ∧ k_ ≠ gb399))) (fun _ hk => hk.2) (.bool false)) (fun _ hk => hk.2) (.bool false)) (fun _ hk => hk.2) (.int .i64 255)) (fun _ hk => hk.2) (.int .i64 0)) (fun _ hk => hk.2) (.int .i64 0)) (fun _ hk => hk.2) (.slice Ao32 y396.length co32)) (fun _ h_ => h_.1))) (Kd.N_base ho0) hb); have n1_ := zzm (Kd.N_elder' (by (with_reducible repeat (first | apply Kd.N_alloc | apply Kd.N_drewN | apply Kd.N_drew)); exact (Kd.N_mono (Kd.N_far (p := ⟨gb399, 5, none⟩) (Kd.N_far (p := ⟨gb399, 4, none⟩) (Kd.N_far (p := ⟨gb399, 3, none⟩) (Kd.N_far (p := ⟨gb399, 2, none⟩) (Kd.N_far (p := ⟨gb399, 1, none⟩) (Kd.N_far (p := ⟨gb399, 0, none⟩) (Kd.N_mono HO398.out (fun k_ hk => (⟨hk, hk.2⟩ : _ ∧ k_ ≠ gb399))) (fun _ hk => hk.2) (.bool false)) (fun _ hk => hk.2) (.bool false)) (fun _ hk => hk.2) (.int .i64 255)) (fun _ hk => hk.2) (.int .i64 0)) (fun _ hk => hk.2) (.int .i64 0)) (fun _ hk => hk.2) (.slice Ao32 y396.length co32)) (fun _ h_ => h_.1))) (Kd.N_base ho0) hb); have n2_ := zzm (Kd.N_lower (Kd.N_mono (ok' := fun k_ => some k_ ≠ (.slice Ao8 t388.length co8 : Value).ownBlock ∧ some k_ ≠ (.slice Ao32 y396.length co32 : Value).ownBlock ∧ k_ ≠ gb399) ho0 (fun k_ hk_ => ⟨(Kd.fresh' (Kd.N_lt (by (with_reducible repeat (first | apply Kd.N_alloc | apply Kd.N_drewN | apply Kd.N_drew)); exact (Kd.N_mono (Kd.N_far (p := ⟨gb399, 5, none⟩) (Kd.N_far (p := ⟨gb399, 4, none⟩) (Kd.N_far (p := ⟨gb399, 3, none⟩) (Kd.N_far (p := ⟨gb399, 2, none⟩) (Kd.N_far (p := ⟨gb399, 1, none⟩) (Kd.N_far (p := ⟨gb399, 0, none⟩) (Kd.N_mono HO_3.out (fun k_ hk => (⟨hk, hk.2⟩ : _ ∧ k_ ≠ gb399))) (fun _ hk => hk.2) (.bool false)) (fun _ hk => hk.2) (.bool false)) (fun _ hk => hk.2) (.int .i64 255)) (fun _ hk => hk.2) (.int .i64 0)) (fun _ hk => hk.2) (.int .i64 0)) (fun _ hk => hk.2) (.slice Ao32 y396.length co32)) (fun _ h_ => h_.1)))) k_ hk_), (Kd.fresh' (Kd.N_lt (by (with_reducible repeat (first | apply Kd.N_alloc | apply Kd.N_drewN | apply Kd.N_drew)); exact (Kd.N_mono (Kd.N_far (p := ⟨gb399, 5, none⟩) (Kd.N_far (p := ⟨gb399, 4, none⟩) (Kd.N_far (p := ⟨gb399, 3, none⟩) (Kd.N_far (p := ⟨gb399, 2, none⟩) (Kd.N_far (p := ⟨gb399, 1, none⟩) (Kd.N_far (p := ⟨gb399, 0, none⟩) (Kd.N_mono HO398.out (fun k_ hk => (⟨hk, hk.2⟩ : _ ∧ k_ ≠ gb399))) (fun _ hk => hk.2) (.bool false)) (fun _ hk => hk.2) (.bool false)) (fun _ hk => hk.2) (.int .i64 255)) (fun _ hk => hk.2) (.int .i64 0)) (fun _ hk => hk.2) (.int .i64 0)) (fun _ hk => hk.2) (.slice Ao32 y396.length co32)) (fun _ h_ => h_.1)))) k_ hk_), (Kd.freshB (g := gb399) (o := .cells #[.bool false, .bool false, .int .i64 255, .int .i64 0, .int .i64 0, .slice Ao32 y396.length co32] 27 (0, 0)) (by (with_reducible repeat (first | apply zzf | apply zzg | apply zze)); refine zzi (cs := #[.bool false, .bool false, .int .i64 255, .int .i64 0, .int .i64 0, .slice none 0 0]) ?_ 5 _ rfl; (with_reducible repeat (first | apply zzf | apply zzg | apply zze)); refine zzi (cs := #[.bool false, .bool false, .int .i64 255, .int .i64 0, .int .i64 0, .slice none 0 0]) ?_ 4 _ rfl; (with_reducible repeat (first | apply zzf | apply zzg | apply zze)); refine zzi (cs := #[.bool false, .bool false, .int .i64 255, .int .i64 0, .int .i64 0, .slice none 0 0]) ?_ 3 _ rfl; (with_reducible repeat (first | apply zzf | apply zzg | apply zze)); refine zzi (cs := #[.bool false, .bool false, .int .i64 0, .int .i64 0, .int .i64 0, .slice none 0 0]) ?_ 2 _ rfl; (with_reducible repeat (first | apply zzf | apply zzg | apply zze)); refine zzi (cs := #[.bool false, .bool false, .int .i64 0, .int .i64 0, .int .i64 0, .slice none 0 0]) ?_ 1 _ rfl; (with_reducible repeat (first | apply zzf | apply zzg | apply zze)); refine zzi (cs := #[.bool false, .bool false, .int .i64 0, .int .i64 0, .int .i64 0, .slice none 0 0]) ?_ 0 _ rfl; (with_reducible repeat (first | apply zzf | apply zzg | apply zze)); exact BK399.out) k_ hk_)⟩)) (zzo (by repeat (first | (with_reducible first | exact HB.out | apply zza | apply zzb | apply zzc | refine zzd ?_ GE399.out) | exact HB.out)))); have n3_ := zzm (zzh (g := gb399) (o := .cells #[.bool false, .bool false, .int .i64 255, .int .i64 0, .int .i64 0, .slice Ao32 y396.length co32] 27 (0, 0)) (by (with_reducible repeat (first | apply zzf | apply zzg | apply zze)); refine zzi (cs := #[.bool false, .bool false, .int .i64 255, .int .i64 0, .int .i64 0, .slice none 0 0]) ?_ 5 _ rfl; (with_reducible repeat (first | apply zzf | apply zzg | apply zze)); refine zzi (cs := #[.bool false, .bool false, .int .i64 255, .int .i64 0, .int .i64 0, .slice none 0 0]) ?_ 4 _ rfl; (with_reducible repeat (first | apply zzf | apply zzg | apply zze)); refine zzi (cs := #[.bool false, .bool false, .int .i64 255, .int .i64 0, .int .i64 0, .slice none 0 0]) ?_ 3 _ rfl; (with_reducible repeat (first | apply zzf | apply zzg | apply zze)); refine zzi (cs := #[.bool false, .bool false, .int .i64 0, .int .i64 0, .int .i64 0, .slice none 0 0]) ?_ 2 _ rfl; (with_reducible repeat (first | apply zzf | apply zzg | apply zze)); refine zzi (cs := #[.bool false, .bool false, .int .i64 0, .int .i64 0, .int .i64 0, .slice none 0 0]) ?_ 1 _ rfl; (with_reducible repeat (first | apply zzf | apply zzg | apply zze)); refine zzi (cs := #[.bool false, .bool false, .int .i64 0, .int .i64 0, .int .i64 0, .slice none 0 0]) ?_ 0 _ rfl; (with_reducible repeat (first | apply zzf | apply zzg | apply zze)); exact BK399.out) hb); have n4_ := zzm (zzp (by repeat (first | (with_reducible first | exact HB.out | apply zza | apply zzb | apply zzc | refine zzd ?_ GE399.out) | exact HB.out)) hb); clear HO_3 HO398 BK399 HB; have HO_3 := n0_; have HO398 := n1_; have HO402 := n2_; have BK399 := n3_; have HB := n4_; clear n0_ n1_ n2_ n3_ n4_; (try clear hb); (try clear hb2); (try clear hk); (try clear hi); (try clear ho0))); go_ret; exact ⟨by first | rfl | (simp [errW_none, errW_some] <;> rfl) | (simp [*, errW_none, errW_some] <;> rfl), by repeat (first | (with_reducible first | exact HB.out | apply zza | apply zzb | apply zzc | refine zzd ?_ GE399.out) | exact HB.out)⟩
def laws_FnStableMore.Pure : Prop := ∀ (l0 : List Int), l0.length ≤ maxLen → l0.length * 1 ≤ 140737488351232 → (∀ x ∈ l0, (Lit.int .u8 x).wf = true) → ∃ k, laws_FnStableMore.f k l0 = some true
theorem laws_FnStableMore.walk (P : laws_FnStableMore.Pure) (a0 : Option Addr) (len0 cap0 : Nat) (z0 : List Int) (w : World) (w0 : (a0 = none ∧ len0 = 0 ∧ cap0 = 0 ∧ z0 = []) ∨ ∃ x, a0 = some x ∧ len0 ≤ cap0 ∧ cap0 ≤ maxLen ∧ z0.length = cap0 ∧ (∀ i, i < z0.length → w.cell? (x.add i) = some (.int .u8 (z0.getD i 0))) ∧ ∀ n ∈ z0, (Lit.int .u8 n).wf = true) (y0 : len0 * 1 ≤ 140737488351232) :
  Calls Try.prog 10 #[.slice a0 len0 cap0] w fun e w' => e = .returned (.bool true) ∧ Below w.heap.size w w' := by
 obtain ⟨l0, rfl, hr0, hm0, hw0, hc0⟩ := ReadsInt.ofRowC w0; obtain ⟨k, h⟩ := P l0 hm0 y0 hw0; refine (laws_FnStableMore.calls k _ _ l0 true w (Kd.C_of_reads (d := (0 : Int)) (h1 := fun _ => rfl) hr0) hc0 h).mono ?_; rintro e w' ⟨rfl, hd⟩; exact ⟨rfl, hd⟩
end Go.Proofs.Yticpnjhkdfdkkaa.T
namespace Go.Proofs.Yticpnjhkdfdkkaa.Q
open Go.RowKit Go.Proofs.YticpnjhkdfdkkaaW.PrintWords
set_option linter.unusedVariables false
set_option linter.unusedSimpArgs false
theorem ev_succ {α : Type} {g : Nat → Option α} {r : α} (h : Ev (fun k => g (k + 1)) r) : Ev g r := Ev.step (f := fun k => g (k + 1)) (fun _ => rfl) h
theorem ev_of_all {α : Type} {g : Nat → Option α} {r : α} (h : ∀ k, g k = some r) : Ev g r := ⟨0, fun k _ => h k⟩
theorem ev_some {α : Type} (r : α) : Ev (fun _ => some r) r := ev_of_all fun _ => rfl
def Evs {α : Type} (g : Nat → Option α) (Q : α → Prop) : Prop := ∃ r, Ev g r ∧ Q r
theorem Evs.of {α : Type} {g : Nat → Option α} {Q : α → Prop} {r : α} (h : Ev g r) (hq : Q r) : Evs g Q := ⟨r, h, hq⟩
theorem Evs.done {α : Type} {Q : α → Prop} {r : α} (hq : Q r) : Evs (fun _ => some r) Q := ⟨r, ev_some r, hq⟩
theorem Evs.mono {α : Type} {g : Nat → Option α} {Q Q' : α → Prop} (h : Evs g Q) (hq : ∀ r, Q r → Q' r) : Evs g Q' := by
  obtain ⟨r, h1, h2⟩ := h
  exact ⟨r, h1, hq r h2⟩
theorem Evs.succ {α : Type} {g : Nat → Option α} {Q : α → Prop} (h : Evs (fun k => g (k + 1)) Q) : Evs g Q := by
  obtain ⟨r, h1, h2⟩ := h
  exact ⟨r, ev_succ h1, h2⟩
theorem Evs.bind {α β : Type} {g : Nat → Option α} {f : Nat → α → Option β} {Q : α → Prop} {R : β → Prop} (h : Evs g Q) (k : ∀ a, Q a → Evs (fun n => f n a) R) : Evs (fun n => (g n).bind (f n)) R := by
  obtain ⟨a, h1, h2⟩ := h
  obtain ⟨r, k1, k2⟩ := k a h2
  exact ⟨r, Ev.bind h1 k1, k2⟩
theorem bsome {α β : Type} (a : α) (f : α → Option β) : (some a).bind f = f a := Eq.trans (Option.bind_some a f) (Eq.refl _)
end Go.Proofs.Yticpnjhkdfdkkaa.Q
namespace Go.Proofs.Yticpnjhkdfdkkaa.Q
open Go.RowKit Go.Proofs.Yticpnjhkdfdkkaa.T Go.Proofs.YticpnjhkdfdkkaaW.PrintWords Go.Proofs.YticpnjhkdfdkkaaW.PrintLast
set_option linter.unusedVariables false
set_option linter.unusedSimpArgs false
theorem wrap_id {x : Int} (h0 : -9223372036854775808 ≤ x) (h1 : x < 9223372036854775808) : wrap64 x = x := by unfold wrap64; omega
theorem tmod_range {x n : Int} (h : 0 ≤ x) (hn : 1 ≤ n) : 0 ≤ Int.tmod x n ∧ Int.tmod x n < n := by
  rw [Int.tmod_eq_emod_of_nonneg h]
  exact ⟨Int.emod_nonneg _ (by omega), Int.emod_lt_of_pos _ (by omega)⟩
theorem xor_nonneg {a b : Int} (h1 : 0 ≤ a) (h2 : a < 4611686018427387904) (h3 : 0 ≤ b) (h4 : b < 4611686018427387904) : 0 ≤ Go.bits .xor .i64 a b := by
  obtain ⟨A, rfl⟩ := Int.eq_ofNat_of_zero_le h1
  obtain ⟨B, rfl⟩ := Int.eq_ofNat_of_zero_le h3
  have hx : A ^^^ B < 2 ^ 62 := Nat.xor_lt_two_pow (by omega) (by omega)
  have e1 : (BitVec.ofInt 64 (A : Int)).toNat = A := by
    rw [BitVec.ofInt_natCast, BitVec.toNat_ofNat]; exact Nat.mod_eq_of_lt (by omega)
  have e2 : (BitVec.ofInt 64 (B : Int)).toNat = B := by
    rw [BitVec.ofInt_natCast, BitVec.toNat_ofNat]; exact Nat.mod_eq_of_lt (by omega)
  show 0 ≤ IntKind.i64.wrap ((BitVec.ofInt 64 (A : Int) ^^^ BitVec.ofInt 64 (B : Int)).toNat : Int)
  rw [BitVec.toNat_xor, e1, e2]
  simp only [IntKind.wrap, IntKind.bits, IntKind.signed]
  simp
  omega
def Bytes (b : List Int) : Prop := ∀ x ∈ b, 0 ≤ x ∧ x ≤ 255
theorem rd_bytes {b : List Int} (h : Bytes b) (i : Int) : 0 ≤ rd b i ∧ rd b i ≤ 255 := by
  unfold rd
  rw [List.getD_eq_getElem?_getD]
  cases e : b[i.toNat]? with
  | none => simp
  | some x => exact h x (List.mem_of_getElem? e)
theorem pick_ev (b : List Int) (p n : Int) (hb : Bytes b) (hl : b.length ≤ 2000) (h0 : 0 ≤ p) (h1 : p ≤ 1000000000) (hn : 1 ≤ n) :
    ∃ v, Ev (fun k => spec_l6Rd_pick.f k b p n) (v, p + 1) ∧ 0 ≤ v ∧ v < n := by
  have e1 : wrap64 (p + 1) = p + 1 := wrap_id (by omega) (by omega)
  have e2 : wrap64 (p + 1 - 1) = p := by rw [wrap_id (by omega) (by omega)]; omega
  by_cases hz : b.length = 0
  · refine ⟨0, ⟨1, fun k hk => ?_⟩, by omega, by omega⟩
    obtain ⟨k, rfl⟩ : ∃ m, k = m + 1 := ⟨k - 1, by omega⟩
    show spec_l6Rd_pick.f (k + 1) b p n = _
    unfold spec_l6Rd_pick.f
    rw [if_neg (by omega), e1]
    simp [spec_l6Rd_pick.j0, hz]
  · have hz' : (((b.length : Int) == 0) = true) = False := by simp; intro h; simp [h] at hz
    by_cases hlt : p < (b.length : Int)
    · obtain ⟨r0, r1⟩ := rd_bytes hb p
      have := tmod_range (x := rd b p) r0 hn
      refine ⟨Int.tmod (rd b p) n, ⟨1, fun k hk => ?_⟩, this.1, this.2⟩
      obtain ⟨k, rfl⟩ : ∃ m, k = m + 1 := ⟨k - 1, by omega⟩
      show spec_l6Rd_pick.f (k + 1) b p n = _
      unfold spec_l6Rd_pick.f
      rw [if_neg (by omega), e1]
      simp only [spec_l6Rd_pick.j0, e2, hz']
      rw [if_neg (by simp), if_pos hlt, if_pos h0, if_neg (by omega), wrap_id (by omega) (by omega)]
    · obtain ⟨q0, q1⟩ := tmod_range (x := p) (n := (b.length : Int)) h0 (by omega)
      obtain ⟨r0, r1⟩ := rd_bytes hb (Int.tmod p (b.length : Int))
      have f1 : wrap64 (p * 7) = p * 7 := wrap_id (by omega) (by omega)
      have f2 : wrap64 (p * 7 + 3) = p * 7 + 3 := wrap_id (by omega) (by omega)
      obtain ⟨q2, q3⟩ := tmod_range (x := p * 7 + 3) (n := (b.length : Int)) (by omega) (by omega)
      obtain ⟨r2, r3⟩ := rd_bytes hb (Int.tmod (p * 7 + 3) (b.length : Int))
      have d0 : 0 ≤ Int.tdiv p (b.length : Int) ∧ Int.tdiv p (b.length : Int) ≤ p := by
        rw [Int.tdiv_eq_ediv_of_nonneg h0]
        exact ⟨Int.ediv_nonneg h0 (by omega), Int.ediv_le_self _ h0⟩
      obtain ⟨x, hx⟩ : ∃ x, x = rd b (Int.tmod p (b.length : Int)) := ⟨_, rfl⟩
      obtain ⟨y, hy⟩ : ∃ y, y = rd b (Int.tmod (p * 7 + 3) (b.length : Int)) := ⟨_, rfl⟩
      obtain ⟨z, hz2⟩ : ∃ z, z = Int.tdiv p (b.length : Int) := ⟨_, rfl⟩
      obtain ⟨s, hs⟩ : ∃ s, s = x * 131 + y * 1117 + p * 29 + z * 53 := ⟨_, rfl⟩
      rw [← hx] at r0 r1
      rw [← hy] at r2 r3
      rw [← hz2] at d0
      have s0 : 0 ≤ s ∧ s < 4611686018427387904 := by omega
      have t0 : 0 ≤ Int.tdiv s 64 ∧ Int.tdiv s 64 ≤ s := by
        rw [Int.tdiv_eq_ediv_of_nonneg s0.1]
        exact ⟨Int.ediv_nonneg s0.1 (by omega), Int.ediv_le_self _ s0.1⟩
      have w1 : wrap64 x = x := wrap_id (by omega) (by omega)
      have w2 : wrap64 y = y := wrap_id (by omega) (by omega)
      have w3 : wrap64 z = z := wrap_id (by omega) (by omega)
      have w4 : wrap64 (x * 131) = x * 131 := wrap_id (by omega) (by omega)
      have w5 : wrap64 (y * 1117) = y * 1117 := wrap_id (by omega) (by omega)
      have w6 : wrap64 (p * 29) = p * 29 := wrap_id (by omega) (by omega)
      have w7 : wrap64 (z * 53) = z * 53 := wrap_id (by omega) (by omega)
      have w8 : wrap64 (x * 131 + y * 1117) = x * 131 + y * 1117 := wrap_id (by omega) (by omega)
      have w9 : wrap64 (x * 131 + y * 1117 + p * 29) = x * 131 + y * 1117 + p * 29 := wrap_id (by omega) (by omega)
      have wa : wrap64 (x * 131 + y * 1117 + p * 29 + z * 53) = s := by rw [hs]; exact wrap_id (by omega) (by omega)
      have wb : wrap64 (Int.tdiv s 64) = Int.tdiv s 64 := wrap_id (by omega) (by omega)
      have := tmod_range (x := Go.bits .xor .i64 s (Int.tdiv s 64)) (n := n) (xor_nonneg s0.1 s0.2 t0.1 (by omega)) hn
      refine ⟨_, ⟨1, fun k hk => ?_⟩, this.1, this.2⟩
      obtain ⟨k, rfl⟩ : ∃ m, k = m + 1 := ⟨k - 1, by omega⟩
      show spec_l6Rd_pick.f (k + 1) b p n = _
      unfold spec_l6Rd_pick.f
      rw [if_neg (by omega), e1]
      simp only [spec_l6Rd_pick.j0, e2, hz', f1, f2]
      rw [if_neg (by simp), if_neg hlt, if_neg (by omega), if_pos q0, if_pos q1, if_pos q2, if_pos q3, if_neg (by omega), ← hx, ← hy, ← hz2, w1, w2, w3, w4, w5, w6, w7, w8, w9, wa, wb]
theorem pick_evs (b : List Int) (p n : Int) (hb : Bytes b) (hl : b.length ≤ 2000) (h0 : 0 ≤ p) (h1 : p ≤ 1000000000) (hn : 1 ≤ n) :
    Evs (fun k => spec_l6Rd_pick.f k b p n) (fun r => 0 ≤ r.1 ∧ r.1 < n ∧ r.2 = p + 1) := by
  obtain ⟨v, h, v0, v1⟩ := pick_ev b p n hb hl h0 h1 hn
  exact ⟨_, h, v0, v1, rfl⟩
end Go.Proofs.Yticpnjhkdfdkkaa.Q
namespace Go.Proofs.Yticpnjhkdfdkkaa.Q
open Go.RowKit Go.Proofs.Yticpnjhkdfdkkaa.T Go.Proofs.YticpnjhkdfdkkaaW.PrintWords Go.Proofs.YticpnjhkdfdkkaaW.PrintLast
set_option linter.unusedVariables false
set_option linter.unusedSimpArgs false
theorem impl_within_eq (a b c : Int) : impl_within.f a b c = some (decide (b ≤ a ∧ a ≤ c)) := by
  unfold impl_within.f
  by_cases h : a ≥ b
  · rw [if_pos h]
    have : (b ≤ a ∧ a ≤ c) ↔ a ≤ c := ⟨fun h => h.2, fun h' => ⟨h, h'⟩⟩
    simp [this]
  · rw [if_neg h]
    have : ¬ (b ≤ a ∧ a ≤ c) := fun h' => h h'.1
    simp [this]
theorem spec_l6In_eq (a b c : Int) : spec_l6In.f a b c = some (decide (b ≤ a ∧ a ≤ c)) := by
  unfold spec_l6In.f
  by_cases h : a ≥ b
  · rw [if_pos h]
    have : (b ≤ a ∧ a ≤ c) ↔ a ≤ c := ⟨fun h => h.2, fun h' => ⟨h, h'⟩⟩
    simp [this]
  · rw [if_neg h]
    have : ¬ (b ≤ a ∧ a ≤ c) := fun h' => h h'.1
    simp [this]
end Go.Proofs.Yticpnjhkdfdkkaa.Q
namespace Go.Proofs.Yticpnjhkdfdkkaa.Q
open Go.RowKit Go.Proofs.Yticpnjhkdfdkkaa.T Go.Proofs.YticpnjhkdfdkkaaW.PrintWords Go.Proofs.YticpnjhkdfdkkaaW.PrintLast
set_option linter.unusedVariables false
set_option linter.unusedSimpArgs false
theorem rd_nat (l : List Int) (j : Nat) (h : j < l.length) : rd l (j : Int) = l[j] := by
  unfold rd
  rw [Int.toNat_natCast, List.getD_eq_getElem?_getD, List.getElem?_eq_getElem h]
  rfl
theorem drop_int {l : List Int} {i : Nat} (h : i < l.length) : l.drop i = rd l i :: l.drop (i + 1) := by
  rw [List.drop_eq_getElem_cons h, rd_nat l i h]
def ab (l : List Int) : Bool := decide (∀ x ∈ l, 0 ≤ x ∧ x ≤ 255)
theorem ab_cons (x : Int) (l : List Int) : ab (x :: l) = (decide (0 ≤ x ∧ x ≤ 255) && ab l) := by
  rw [Bool.eq_iff_iff]
  simp [ab, List.forall_mem_cons]
theorem ab_nil : ab [] = true := by simp [ab]
theorem isByte_eq (a : Int) : impl_isByte.f a = some (decide (0 ≤ a ∧ a ≤ 255)) := by
  unfold impl_isByte.f
  by_cases h : a ≥ 0
  · rw [if_pos h]
    have : (0 ≤ a ∧ a ≤ 255) ↔ a ≤ 255 := ⟨fun h => h.2, fun h' => ⟨h, h'⟩⟩
    simp [this]
  · rw [if_neg h]
    have : ¬ (0 ≤ a ∧ a ≤ 255) := fun h' => h h'.1
    simp [this]
theorem baseValid_eq (a b : Int) : impl_baseValid.f a b = some (decide ((0 ≤ a ∧ a ≤ 99999) ∧ (0 ≤ b ∧ b ≤ 99999))) := by
  unfold impl_baseValid.f
  rw [impl_within_eq, impl_within_eq]
  by_cases h : 0 ≤ a ∧ a ≤ 99999 <;> simp [h]
theorem idValid_eqB (a : Int) : impl_idValid.f a = some (decide (0 ≤ a ∧ a ≤ 254)) := by
  unfold impl_idValid.f
  rw [impl_within_eq]
  rfl
theorem implAll_loop (l : List Int) (hl : l.length ≤ 1000000000000000) : ∀ (d i : Nat), l.length - i = d → i ≤ l.length → Ev (fun k => impl_allBytes.l0 k l (l.length : Int) (i : Int)) (ab (l.drop i)) := by
  intro d
  induction d with
  | zero =>
    intro i hd hi
    rw [show l.drop i = [] from List.drop_eq_nil_of_le (by omega), ab_nil]
    refine ev_succ ?_
    simp only [impl_allBytes.l0, if_neg (show ¬ (i : Int) < (l.length : Int) by omega)]
    exact ev_some _
  | succ d ih =>
    intro i hd hi
    have e1 : wrap64 ((i : Int) + 1) = ((i + 1 : Nat) : Int) := by rw [wrap_id (by omega) (by omega)]; omega
    rw [drop_int (show i < l.length by omega), ab_cons]
    refine ev_succ ?_
    simp only [impl_allBytes.l0, if_pos (show (i : Int) < (l.length : Int) by omega), if_pos (show (0 : Int) ≤ i by omega), isByte_eq, bsome, decide_eq_true_eq, e1]
    by_cases h : 0 ≤ rd l (i : Int) ∧ rd l (i : Int) ≤ 255
    · simp only [if_pos h, decide_eq_true h, Bool.true_and]
      exact ih (i + 1) (by omega) (by omega)
    · simp only [if_neg h, decide_eq_false h, Bool.false_and]
      exact ev_some _
theorem implAll (l : List Int) (hl : l.length ≤ 1000000000000000) : Ev (fun k => impl_allBytes.f k l) (ab l) := by
  unfold impl_allBytes.f
  have := implAll_loop l hl l.length 0 (by omega) (by omega)
  simpa using this
theorem specAll_loop (l : List Int) (hl : l.length ≤ 1000000000000000) : ∀ (d i : Nat), l.length - i = d → i ≤ l.length → Ev (fun k => spec_l1Ok.l0 k l (i : Int)) (ab (l.drop i)) := by
  intro d
  induction d with
  | zero =>
    intro i hd hi
    rw [show l.drop i = [] from List.drop_eq_nil_of_le (by omega), ab_nil]
    refine ev_succ ?_
    simp only [spec_l1Ok.l0, if_neg (show ¬ (i : Int) < (l.length : Int) by omega)]
    exact ev_some _
  | succ d ih =>
    intro i hd hi
    have e1 : wrap64 ((i : Int) + 1) = ((i + 1 : Nat) : Int) := by rw [wrap_id (by omega) (by omega)]; omega
    rw [drop_int (show i < l.length by omega), ab_cons]
    refine ev_succ ?_
    simp only [spec_l1Ok.l0, if_pos (show (i : Int) < (l.length : Int) by omega), if_pos (show (0 : Int) ≤ i by omega), spec_l6In_eq, bsome, decide_eq_true_eq, e1]
    by_cases h : 0 ≤ rd l (i : Int) ∧ rd l (i : Int) ≤ 255
    · simp only [if_pos h, decide_eq_true h, Bool.true_and]
      exact ih (i + 1) (by omega) (by omega)
    · simp only [if_neg h, decide_eq_false h, Bool.false_and]
      exact ev_some _
theorem specAll (l : List Int) (hl : l.length ≤ 1000000000000000) : Ev (fun k => spec_l1Ok.f k l) (ab l) := by
  unfold spec_l1Ok.f
  have := specAll_loop l hl l.length 0 (by omega) (by omega)
  simpa using this
def pv (has : Bool) (l : List Int) : Bool := if has = true then decide (l.length ≤ 12) && ab l else decide (l.length = 0)
theorem implPart (has : Bool) (l : List Int) (hl : l.length ≤ 1000000000000000) : Ev (fun k => impl_partValid.f k has l) (pv has l) := by
  unfold impl_partValid.f pv
  cases has with
  | true =>
    simp only [if_true]
    by_cases h : (l.length : Int) ≤ 12
    · simp only [if_pos h, decide_eq_true (show l.length ≤ 12 by omega), Bool.true_and]
      exact Ev.bind (implAll l hl) (ev_some _)
    · simp only [if_neg h, decide_eq_false (show ¬ l.length ≤ 12 by omega), Bool.false_and]
      exact ev_some _
  | false =>
    simp only [Bool.false_eq_true, if_false]
    rw [show ((l.length : Int) == 0) = decide (l.length = 0) by rw [Bool.eq_iff_iff]; simp]
    exact ev_some _
theorem specPart (has : Bool) (l : List Int) (hl : l.length ≤ 1000000000000000) : Ev (fun k => spec_l3Part.f k has l) (pv has l) := by
  unfold spec_l3Part.f pv
  cases has with
  | true =>
    simp only [if_true]
    refine Ev.bind (specAll l hl) ?_
    by_cases h : ab l = true
    · simp only [if_pos h, h, Bool.and_true]
      rw [show decide ((l.length : Int) ≤ 12) = decide (l.length ≤ 12) by rw [decide_eq_decide]; omega]
      exact ev_some _
    · simp only [if_neg h, show ab l = false by simpa using h, Bool.and_false]
      exact ev_some _
  | false =>
    simp only [Bool.false_eq_true, if_false]
    by_cases h : l.length = 0
    · simp only [if_pos (show (l.length : Int) = 0 by omega), decide_eq_true h]
      refine Ev.bind (specAll l hl) ?_
      have hn : l = [] := List.length_eq_zero_iff.1 h
      subst hn
      simp only [ab_nil, if_true]
      exact ev_some _
    · simp only [if_neg (show ¬ (l.length : Int) = 0 by omega), decide_eq_false h]
      exact ev_some _
abbrev Rc := S34
abbrev rr (l : List Rc) (i : Int) : Rc := rd_T34 l i
theorem rr_nat (l : List Rc) (j : Nat) (h : j < l.length) : rr l (j : Int) = l[j] := by
  unfold rr rd_T34
  rw [Int.toNat_natCast, List.getD_eq_getElem?_getD, List.getElem?_eq_getElem h]
  rfl
def smallR (r : Rc) : Prop := r.f3.length ≤ 1000000000000000 ∧ r.f5.length ≤ 1000000000000000
def smallRs (l : List Rc) : Prop := l.length ≤ 1000000000000000 ∧ ∀ r ∈ l, smallR r
theorem smallRs_at {l : List Rc} (h : smallRs l) (j : Nat) (hj : j < l.length) : smallR (rr l (j : Int)) := by
  rw [rr_nat l j hj]
  exact h.2 _ (List.getElem_mem hj)
def rv (r : Rc) : Bool := decide ((0 ≤ r.f0 ∧ r.f0 ≤ 99999) ∧ (0 ≤ r.f1 ∧ r.f1 ≤ 99999)) && (pv r.f2 r.f3 && pv r.f4 r.f5)
theorem implRec (r : Rc) (h : smallR r) : Ev (fun k => impl_RecordValid.f k r.f0 r.f1 r.f2 r.f3 r.f4 r.f5) (rv r) := by
  unfold impl_RecordValid.f rv
  simp only [baseValid_eq, bsome, decide_eq_true_eq]
  by_cases h0 : (0 ≤ r.f0 ∧ r.f0 ≤ 99999) ∧ (0 ≤ r.f1 ∧ r.f1 ≤ 99999)
  · simp only [if_pos h0, decide_eq_true h0, Bool.true_and]
    refine Ev.bind (implPart _ _ h.1) ?_
    by_cases h1 : pv r.f2 r.f3 = true
    · simp only [if_pos h1, h1, Bool.true_and]
      exact Ev.bind (implPart _ _ h.2) (ev_some _)
    · simp only [if_neg h1, show pv r.f2 r.f3 = false by simpa using h1, Bool.false_and]
      exact ev_some _
  · simp only [if_neg h0, decide_eq_false h0, Bool.false_and]
    exact ev_some _
theorem specRec (r : Rc) (h : smallR r) : Ev (fun k => spec_RecordValid.f k r.f0 r.f1 r.f2 r.f3 r.f4 r.f5) (rv r) := by
  unfold spec_RecordValid.f rv
  simp only [spec_l6In_eq, bsome, decide_eq_true_eq]
  by_cases h0 : 0 ≤ r.f0 ∧ r.f0 ≤ 99999
  · by_cases h1 : 0 ≤ r.f1 ∧ r.f1 ≤ 99999
    · simp only [if_pos h0, if_pos h1, decide_eq_true (show (0 ≤ r.f0 ∧ r.f0 ≤ 99999) ∧ (0 ≤ r.f1 ∧ r.f1 ≤ 99999) from ⟨h0, h1⟩), Bool.true_and]
      refine Ev.bind (specPart _ _ h.1) ?_
      by_cases h2 : pv r.f2 r.f3 = true
      · simp only [if_pos h2, h2, Bool.true_and]
        exact Ev.bind (specPart _ _ h.2) (ev_some _)
      · simp only [if_neg h2, show pv r.f2 r.f3 = false by simpa using h2, Bool.false_and]
        exact ev_some _
    · simp only [if_pos h0, if_neg h1, decide_eq_false (show ¬ ((0 ≤ r.f0 ∧ r.f0 ≤ 99999) ∧ (0 ≤ r.f1 ∧ r.f1 ≤ 99999)) from fun h => h1 h.2), Bool.false_and]
      exact ev_some _
  · simp only [if_neg h0, decide_eq_false (show ¬ ((0 ≤ r.f0 ∧ r.f0 ≤ 99999) ∧ (0 ≤ r.f1 ∧ r.f1 ≤ 99999)) from fun h => h0 h.1), Bool.false_and]
    exact ev_some _
def RF (l : List Rc) (i : Nat) : Prop := ∀ j, i ≤ j → j < l.length → rv (rr l j) = true ∧ (0 < j → (rr l ((j : Int) - 1)).f0 < (rr l j).f0)
theorem RF_end {l : List Rc} {i : Nat} (h : l.length ≤ i) : RF l i := fun j h1 h2 => by omega
theorem RF_step {l : List Rc} {i : Nat} (h : i < l.length) : RF l i ↔ (rv (rr l i) = true ∧ (0 < i → (rr l ((i : Int) - 1)).f0 < (rr l i).f0)) ∧ RF l (i + 1) := by
  constructor
  · intro hv
    exact ⟨hv i (Nat.le_refl _) h, fun j h1 h2 => hv j (by omega) h2⟩
  · rintro ⟨h1, h2⟩ j h3 h4
    by_cases e : j = i
    · subst e; exact h1
    · exact h2 j (by omega) h4
theorem implRecs_loop (l : List Rc) (hl : smallRs l) (a0 a1 : Bool) (a2 a3 a4 : Int) : ∀ (d i : Nat), l.length - i = d → i ≤ l.length → Evs (fun k => impl_BatchValid.l0 k l (l.length : Int) (i : Int) a0 a1 a2 a3 a4 l) (fun b => b = true ↔ RF l i) := by
  intro d
  induction d with
  | zero =>
    intro i hd hi
    refine Evs.succ ?_
    simp only [impl_BatchValid.l0, if_neg (show ¬ (i : Int) < (l.length : Int) by omega)]
    exact Evs.done (by simp; exact RF_end (by omega))
  | succ d ih =>
    intro i hd hi
    have hll := hl.1
    have hn := ih (i + 1) (by omega) (by omega)
    have e1 : wrap64 ((i : Int) + 1) = ((i + 1 : Nat) : Int) := by rw [wrap_id (by omega) (by omega)]; omega
    have e2 : wrap64 ((i : Int) - 1) = (i : Int) - 1 := wrap_id (by omega) (by omega)
    rw [RF_step (show i < l.length by omega)]
    refine Evs.succ ?_
    simp only [impl_BatchValid.l0, if_pos (show (i : Int) < (l.length : Int) by omega), if_pos (show (0 : Int) ≤ i by omega), e1, e2]
    refine Evs.bind (Evs.of (implRec (rr l (i : Int)) (smallRs_at hl i (by omega))) rfl : Evs _ (fun x => x = rv (rr l (i : Int)))) ?_
    rintro _ rfl
    by_cases h1 : rv (rr l (i : Int)) = true
    · simp only [if_pos h1]
      by_cases h0 : (i : Int) > 0
      · simp only [if_pos h0, if_pos (show 0 ≤ (i : Int) - 1 by omega), if_pos (show (i : Int) - 1 < (l.length : Int) by omega)]
        by_cases h2 : (rr l ((i : Int) - 1)).f0 ≥ (rr l (i : Int)).f0
        · simp only [if_pos h2]
          refine Evs.done ?_
          simp only [Bool.false_eq_true, false_iff]
          rintro ⟨⟨_, h3⟩, _⟩
          have := h3 (by omega)
          omega
        · simp only [if_neg h2]
          refine hn.mono fun b hb => ?_
          rw [hb]
          exact ⟨fun h => ⟨⟨h1, fun _ => by omega⟩, h⟩, fun h => h.2⟩
      · simp only [if_neg h0]
        refine hn.mono fun b hb => ?_
        rw [hb]
        exact ⟨fun h => ⟨⟨h1, fun h' => absurd h' (by omega)⟩, h⟩, fun h => h.2⟩
    · simp only [if_neg h1]
      exact Evs.done (by simp only [Bool.false_eq_true, false_iff]; exact fun h => h1 h.1.1)
theorem specRecs_loop (l : List Rc) (hl : smallRs l) : ∀ (d i : Nat), l.length - i = d → i ≤ l.length → Evs (fun k => spec_l5Records.l0 k l (i : Int)) (fun b => b = true ↔ RF l i ∧ 1 ≤ l.length ∧ l.length ≤ 6) := by
  intro d
  induction d with
  | zero =>
    intro i hd hi
    refine Evs.succ ?_
    simp only [spec_l5Records.l0, if_neg (show ¬ (i : Int) < (l.length : Int) by omega), spec_l6In_eq, bsome]
    exact Evs.done (by simp only [decide_eq_true_eq]; exact ⟨fun h => ⟨RF_end (by omega), by omega, by omega⟩, fun h => by have := h.2; omega⟩)
  | succ d ih =>
    intro i hd hi
    have hll := hl.1
    have hn := ih (i + 1) (by omega) (by omega)
    have e1 : wrap64 ((i : Int) + 1) = ((i + 1 : Nat) : Int) := by rw [wrap_id (by omega) (by omega)]; omega
    have e2 : wrap64 ((i : Int) - 1) = (i : Int) - 1 := wrap_id (by omega) (by omega)
    rw [RF_step (show i < l.length by omega)]
    refine Evs.succ ?_
    simp only [spec_l5Records.l0, if_pos (show (i : Int) < (l.length : Int) by omega), if_pos (show (0 : Int) ≤ i by omega), e1, e2]
    refine Evs.bind (Evs.of (specRec (rr l (i : Int)) (smallRs_at hl i (by omega))) rfl : Evs _ (fun x => x = rv (rr l (i : Int)))) ?_
    rintro _ rfl
    by_cases h1 : rv (rr l (i : Int)) = true
    · simp only [if_pos h1]
      by_cases h0 : (i : Int) > 0
      · simp only [if_pos h0, if_pos (show 0 ≤ (i : Int) - 1 by omega), if_pos (show (i : Int) - 1 < (l.length : Int) by omega)]
        by_cases h2 : (rr l ((i : Int) - 1)).f0 ≥ (rr l (i : Int)).f0
        · simp only [if_pos h2]
          refine Evs.done ?_
          simp only [Bool.false_eq_true, false_iff]
          rintro ⟨⟨⟨_, h3⟩, _⟩, _⟩
          have := h3 (by omega)
          omega
        · simp only [if_neg h2]
          refine hn.mono fun b hb => ?_
          rw [hb]
          exact ⟨fun h => ⟨⟨⟨h1, fun _ => by omega⟩, h.1⟩, h.2⟩, fun h => ⟨h.1.2, h.2⟩⟩
      · simp only [if_neg h0]
        refine hn.mono fun b hb => ?_
        rw [hb]
        exact ⟨fun h => ⟨⟨⟨h1, fun h' => absurd h' (by omega)⟩, h.1⟩, h.2⟩, fun h => ⟨h.1.2, h.2⟩⟩
    · simp only [if_neg h1]
      exact Evs.done (by simp only [Bool.false_eq_true, false_iff]; exact fun h => h1 h.1.1.1)
def VB (a1 : Bool) (a2 a3 a4 : Int) (l : List Rc) : Prop :=
  (if a2 = 255 then a3 = 0 ∧ a4 = 0 ∧ a1 = false else (0 ≤ a2 ∧ a2 ≤ 254) ∧ (0 ≤ a3 ∧ a3 ≤ 99) ∧ (0 ≤ a4 ∧ a4 ≤ 9999)) ∧ (1 ≤ l.length ∧ l.length ≤ 6) ∧ (a1 = true → l.length = 1) ∧ RF l 0
theorem implB_j0 (a0 a1 : Bool) (a2 a3 a4 : Int) (l : List Rc) (hl : smallRs l) : Evs (fun k => impl_BatchValid.j0 k a0 a1 a2 a3 a4 l) (fun b => b = true ↔ (1 ≤ l.length ∧ l.length ≤ 6) ∧ (a1 = true → l.length = 1) ∧ RF l 0) := by
  have hr := implRecs_loop l hl a0 a1 a2 a3 a4 l.length 0 (by omega) (by omega)
  refine Evs.succ ?_
  simp only [impl_BatchValid.j0, impl_within_eq, bsome, decide_eq_true_eq]
  by_cases h : 1 ≤ (l.length : Int) ∧ (l.length : Int) ≤ 6
  · simp only [if_pos h]
    cases a1 with
    | true =>
      simp only [if_true]
      refine Evs.succ ?_
      by_cases h1 : l.length = 1
      · simp only [impl_BatchValid.j1, show ((l.length : Int) != 1) = false by rw [h1]; rfl, Bool.false_eq_true, if_false]
        refine hr.mono fun b hb => ?_
        rw [hb]
        exact ⟨fun h2 => ⟨by omega, fun _ => h1, h2⟩, fun h2 => h2.2.2⟩
      · simp only [impl_BatchValid.j1, show ((l.length : Int) != 1) = true by simp; omega, if_true]
        exact Evs.done (by simp only [Bool.false_eq_true, false_iff]; exact fun h2 => h1 (h2.2.1 trivial))
    | false =>
      simp only [Bool.false_eq_true, if_false]
      refine Evs.succ ?_
      simp only [impl_BatchValid.j1, Bool.false_eq_true, if_false]
      refine hr.mono fun b hb => ?_
      rw [hb]
      exact ⟨fun h2 => ⟨by omega, (fun h3 => h3.elim), h2⟩, fun h2 => h2.2.2⟩
  · simp only [if_neg h]
    refine Evs.succ ?_
    simp only [impl_BatchValid.j1, if_true]
    exact Evs.done (by simp only [Bool.false_eq_true, false_iff]; exact fun h2 => h ⟨by have := h2.1.1; omega, by have := h2.1.2; omega⟩)
theorem implB_evs (a0 a1 : Bool) (a2 a3 a4 : Int) (l : List Rc) (hl : smallRs l) : Evs (fun k => impl_BatchValid.f k a0 a1 a2 a3 a4 l) (fun b => b = true ↔ VB a1 a2 a3 a4 l) := by
  have hj := implB_j0 a0 a1 a2 a3 a4 l hl
  unfold impl_BatchValid.f VB
  by_cases h : a2 = 255
  · simp only [if_pos h]
    by_cases h3 : a3 = 0
    · simp only [if_pos h3]
      by_cases h4 : a4 = 0
      · simp only [if_pos h4]
        cases a1 with
        | true =>
          simp only [if_true]
          exact Evs.done (by simp)
        | false =>
          simp only [Bool.false_eq_true, if_false]
          refine hj.mono fun b hb => ?_
          rw [hb]
          exact ⟨fun h2 => ⟨⟨h3, h4, trivial⟩, h2.1, (fun h5 => h5.elim), h2.2.2⟩, fun h2 => ⟨h2.2.1, (fun h5 => by cases h5), h2.2.2.2⟩⟩
      · simp only [if_neg h4]
        exact Evs.done (by simp only [Bool.false_eq_true, false_iff]; exact fun h2 => h4 h2.1.2.1)
    · simp only [if_neg h3]
      exact Evs.done (by simp only [Bool.false_eq_true, false_iff]; exact fun h2 => h3 h2.1.1)
  · simp only [if_neg h, idValid_eqB, impl_within_eq, bsome, decide_eq_true_eq]
    by_cases h2 : 0 ≤ a2 ∧ a2 ≤ 254
    · simp only [if_pos h2]
      by_cases h3 : 0 ≤ a3 ∧ a3 ≤ 99
      · simp only [if_pos h3]
        by_cases h4 : 0 ≤ a4 ∧ a4 ≤ 9999
        · simp only [if_pos h4]
          refine hj.mono fun b hb => ?_
          rw [hb]
          exact ⟨fun h5 => ⟨⟨h2, h3, h4⟩, h5⟩, fun h5 => h5.2⟩
        · simp only [if_neg h4]
          exact Evs.done (by simp only [Bool.false_eq_true, false_iff]; exact fun h5 => h4 h5.1.2.2)
      · simp only [if_neg h3]
        exact Evs.done (by simp only [Bool.false_eq_true, false_iff]; exact fun h5 => h3 h5.1.2.1)
    · simp only [if_neg h2]
      exact Evs.done (by simp only [Bool.false_eq_true, false_iff]; exact fun h5 => h2 h5.1.1)
theorem specB_j0_true (a0 a1 : Bool) (a2 a3 a4 : Int) (l : List Rc) : Evs (fun k => spec_BatchValid.j0 k true a0 a1 a2 a3 a4 l) (fun b => b = false) := by
  refine Evs.succ ?_
  simp only [spec_BatchValid.j0, if_true]
  exact Evs.done rfl
theorem specB_evs (a0 a1 : Bool) (a2 a3 a4 : Int) (l : List Rc) (hl : smallRs l) : Evs (fun k => spec_BatchValid.f k a0 a1 a2 a3 a4 l) (fun b => b = true ↔ VB a1 a2 a3 a4 l) := by
  have hr := specRecs_loop l hl l.length 0 (by omega) (by omega)
  have no : ∀ {P : Prop}, ¬ P → ∀ b : Bool, b = false → (b = true ↔ P) := fun hP b hb => by rw [hb]; simp only [Bool.false_eq_true, false_iff]; exact hP
  unfold spec_BatchValid.f
  unfold spec_l5Records.f
  refine Evs.bind hr ?_
  intro t ht
  by_cases h : t = true
  · obtain ⟨hRF, hl1⟩ := ht.1 h
    simp only [if_pos h, spec_l6In_eq, bsome, decide_eq_true_eq]
    by_cases h2 : 0 ≤ a2 ∧ a2 ≤ 255
    · simp only [if_pos h2]
      by_cases h3 : 0 ≤ a3 ∧ a3 ≤ 99
      · simp only [if_pos h3]
        by_cases h4 : 0 ≤ a4 ∧ a4 ≤ 9999
        · simp only [decide_eq_true h4, Bool.not_true]
          refine Evs.succ ?_
          simp only [spec_BatchValid.j0, Bool.false_eq_true, if_false]
          unfold VB
          by_cases h5 : a2 = 255
          · simp only [if_pos h5]
            by_cases h6 : a3 = 0
            · simp only [if_pos h6]
              by_cases h7 : a4 = 0
              · simp only [if_pos h7]
                refine Evs.done ?_
                cases a1
                · simp; exact ⟨⟨h6, h7⟩, hl1, hRF⟩
                · simp
              · simp only [if_neg h7]
                exact Evs.done (no (fun h8 => h7 h8.1.2.1) _ rfl)
            · simp only [if_neg h6]
              exact Evs.done (no (fun h8 => h6 h8.1.1) _ rfl)
          · simp only [if_neg h5]
            cases a1 with
            | true =>
              simp only [if_true]
              refine Evs.done ?_
              simp only [beq_iff_eq]
              exact ⟨fun h8 => ⟨⟨by omega, h3, h4⟩, hl1, fun _ => by omega, hRF⟩, fun h8 => by have := h8.2.2.1 trivial; omega⟩
            | false =>
              simp only [Bool.false_eq_true, if_false]
              refine Evs.done ?_
              simp only [true_iff]
              exact ⟨⟨by omega, h3, h4⟩, hl1, (fun h8 => h8.elim), hRF⟩
        · simp only [decide_eq_false h4, Bool.not_false]
          refine (specB_j0_true a0 a1 a2 a3 a4 l).mono (no ?_)
          unfold VB
          split
          · rintro ⟨⟨_, h8, _⟩, _⟩
            exact h4 (by omega)
          · exact fun h8 => h4 h8.1.2.2
      · simp only [if_neg h3]
        refine (specB_j0_true a0 a1 a2 a3 a4 l).mono (no ?_)
        unfold VB
        split
        · rintro ⟨⟨h8, _, _⟩, _⟩
          exact h3 (by omega)
        · exact fun h8 => h3 h8.1.2.1
    · simp only [if_neg h2]
      refine (specB_j0_true a0 a1 a2 a3 a4 l).mono (no ?_)
      unfold VB
      split
      · rename_i h8
        exact fun _ => h2 (by omega)
      · exact fun h8 => h2 (by have := h8.1.1; omega)
  · simp only [if_neg h]
    refine (specB_j0_true a0 a1 a2 a3 a4 l).mono (no ?_)
    exact fun h8 => h (ht.2 ⟨h8.2.2.2, h8.2.1⟩)
open Classical in
noncomputable def vb (a1 : Bool) (a2 a3 a4 : Int) (l : List Rc) : Bool := decide (VB a1 a2 a3 a4 l)
theorem vb_iff (a1 : Bool) (a2 a3 a4 : Int) (l : List Rc) : vb a1 a2 a3 a4 l = true ↔ VB a1 a2 a3 a4 l := by unfold vb; simp
theorem implB (a0 a1 : Bool) (a2 a3 a4 : Int) (l : List Rc) (hl : smallRs l) : Ev (fun k => impl_BatchValid.f k a0 a1 a2 a3 a4 l) (vb a1 a2 a3 a4 l) := by
  obtain ⟨b, hb, h⟩ := implB_evs a0 a1 a2 a3 a4 l hl
  rw [show vb a1 a2 a3 a4 l = b by rw [Bool.eq_iff_iff, vb_iff, h]]
  exact hb
theorem specB (a0 a1 : Bool) (a2 a3 a4 : Int) (l : List Rc) (hl : smallRs l) : Ev (fun k => spec_BatchValid.f k a0 a1 a2 a3 a4 l) (vb a1 a2 a3 a4 l) := by
  obtain ⟨b, hb, h⟩ := specB_evs a0 a1 a2 a3 a4 l hl
  rw [show vb a1 a2 a3 a4 l = b by rw [Bool.eq_iff_iff, vb_iff, h]]
  exact hb
end Go.Proofs.Yticpnjhkdfdkkaa.Q
namespace Go.Proofs.Yticpnjhkdfdkkaa.Q
open Go.RowKit Go.Proofs.Yticpnjhkdfdkkaa.T Go.Proofs.YticpnjhkdfdkkaaW.PrintWords Go.Proofs.YticpnjhkdfdkkaaW.PrintLast
set_option linter.unusedVariables false
set_option linter.unusedSimpArgs false
theorem bytes_of {l : List Int} (h : ∀ x ∈ l, (Lit.int .u8 x).wf = true) : Bytes l := by
  intro x hx
  have := h x hx
  simp [Lit.wf, IntKind.min, IntKind.max, IntKind.signed, IntKind.bits] at this
  omega
theorem open_ev (l : List Int) (h : Bytes l) : ∃ b, spec_l6Open.f l = some (b, 0) ∧ Bytes b ∧ b.length ≤ 2000 := by
  unfold spec_l6Open.f
  by_cases hc : (l.length : Int) > 2000
  · rw [if_pos hc, if_pos (by omega)]
    exact ⟨_, rfl, fun x hx => h x (List.mem_of_mem_take hx), by rw [List.length_take]; omega⟩
  · rw [if_neg hc]
    exact ⟨_, rfl, h, by omega⟩
end Go.Proofs.Yticpnjhkdfdkkaa.Q
namespace Go.Proofs.Yticpnjhkdfdkkaa.Q
open Go.RowKit Go.Proofs.Yticpnjhkdfdkkaa.T Go.Proofs.YticpnjhkdfdkkaaW.PrintWords Go.Proofs.YticpnjhkdfdkkaaW.PrintLast
set_option linter.unusedVariables false
set_option linter.unusedSimpArgs false
theorem lim2 {n c : Nat} (h : n ≤ 2000) (hc : 2000 < c) : n < c := by omega
theorem part_loop (bs : List Int) (hb : Bytes bs) (hl : bs.length ≤ 2000) : ∀ (d : Nat) (l : List Int) (n i p : Int), n - i ≤ d → 0 ≤ i → (l.length : Int) ≤ i → (l.length : Int) ≤ 12 → n ≤ 12 → 0 ≤ p → p + 2 * d ≤ 900000000 →
    Evs (fun k => spec_l91Part.l0 k l n i bs p) (fun r => r.2.1.length ≤ 12 ∧ p ≤ r.2.2 ∧ r.2.2 ≤ p + 2 * d) := by
  intro d
  induction d with
  | zero =>
    intro l n i p hd hi hll h12 hn h0 h1
    refine Evs.succ ?_
    simp only [spec_l91Part.l0, if_neg (show ¬ i < n by omega)]
    exact Evs.done ⟨by dsimp only; omega, by dsimp only; omega, by dsimp only; omega⟩
  | succ d ih =>
    intro l n i p hd hi hll h12 hn h0 h1
    refine Evs.succ ?_
    by_cases hlt : i < n
    · have e1 : wrap64 (i + 1) = i + 1 := wrap_id (by omega) (by omega)
      simp only [spec_l91Part.l0, if_pos hlt, bsome, e1]
      refine Evs.bind (pick_evs bs p 256 hb hl h0 (by omega) (by omega)) ?_
      rintro ⟨u, _⟩ ⟨u0, u1, rfl⟩
      refine Evs.bind (pick_evs bs (p + 1) 4 hb hl (by omega) (by omega) (by omega)) ?_
      rintro ⟨v, _⟩ ⟨v0, v1, rfl⟩
      simp only [if_pos v0, if_pos (show v < (([1, 2, 3, u] : List Int).length : Int) from v1), if_pos (show l.length < 17592186044416 from lim2 (by omega) (by omega))]
      have h := ih (l ++ [rd [1, 2, 3, u] v]) n (i + 1) (p + 1 + 1) (by omega) (by omega) (by simp; omega) (by simp; omega) hn (by omega) (by omega)
      exact h.mono (fun r hr => ⟨hr.1, by have := hr.2.1; omega, by have := hr.2.2; omega⟩)
    · simp only [spec_l91Part.l0, if_neg hlt]
      exact Evs.done ⟨by dsimp only; omega, by dsimp only; omega, by dsimp only; omega⟩
theorem part_evs (bs : List Int) (hb : Bytes bs) (hl : bs.length ≤ 2000) (p : Int) (h0 : 0 ≤ p) (h1 : p ≤ 800000000) : Evs (fun k => spec_l91Part.f k bs p) (fun r => r.2.1.length ≤ 12 ∧ p ≤ r.2.2 ∧ r.2.2 ≤ p + 30) := by
  unfold spec_l91Part.f
  refine Evs.bind (pick_evs bs p 4 hb hl h0 (by omega) (by omega)) ?_
  rintro ⟨u, _⟩ ⟨u0, u1, rfl⟩
  by_cases hu : u = 0
  · simp only [if_pos hu]
    exact Evs.done ⟨by simp, by dsimp only; omega, by dsimp only; omega⟩
  · simp only [if_neg hu, bsome]
    refine Evs.bind (pick_evs bs (p + 1) 5 hb hl (by omega) (by omega) (by omega)) ?_
    rintro ⟨v, _⟩ ⟨v0, v1, rfl⟩
    refine Evs.bind (pick_evs bs (p + 1 + 1) 12 hb hl (by omega) (by omega) (by omega)) ?_
    rintro ⟨x, _⟩ ⟨x0, x1, rfl⟩
    by_cases hx : x = 0
    · simp only [if_pos hx]
      refine Evs.succ ?_
      simp only [spec_l91Part.j0]
      have h := part_loop bs hb hl 12 [] 12 0 (p + 1 + 1 + 1) (by omega) (by omega) (by simp) (by simp) (by omega) (by omega) (by omega)
      exact h.mono (fun r hr => ⟨hr.1, by have := hr.2.1; omega, by have := hr.2.2; omega⟩)
    · simp only [if_neg hx]
      refine Evs.succ ?_
      simp only [spec_l91Part.j0]
      have h := part_loop bs hb hl 12 [] v 0 (p + 1 + 1 + 1) (by omega) (by omega) (by simp) (by simp) (by omega) (by omega) (by omega)
      exact h.mono (fun r hr => ⟨hr.1, by have := hr.2.1; omega, by have := hr.2.2; omega⟩)
def drawnR (n : Nat) (l : List Rc) : Prop := l.length ≤ n ∧ ∀ r ∈ l, r.f3.length ≤ 12 ∧ r.f5.length ≤ 12
theorem drawnR_small {n : Nat} (hn : n ≤ 100000) {l : List Rc} (h : drawnR n l) : smallRs l := ⟨by have := h.1; omega, fun r hr => ⟨by have := (h.2 r hr).1; omega, by have := (h.2 r hr).2; omega⟩⟩
theorem drawnR_add {n : Nat} {l : List Rc} (h : drawnR n l) {r : Rc} (h3 : r.f3.length ≤ 12) (h5 : r.f5.length ≤ 12) : drawnR (n + 1) (l ++ [r]) := by
  refine ⟨by have := h.1; simp; omega, fun x hx => ?_⟩
  rcases List.mem_append.1 hx with hx | hx
  · exact h.2 x hx
  · rw [List.mem_singleton.1 hx]
    exact ⟨h3, h5⟩
theorem drawnR_mono {n m : Nat} {l : List Rc} (h : drawnR n l) (hm : n ≤ m) : drawnR m l := ⟨by have := h.1; omega, h.2⟩
theorem recs_loop (bs : List Int) (hb : Bytes bs) (hl : bs.length ≤ 2000) (n : Int) (hn : n ≤ 100) : ∀ (d : Nat) (o : Int) (l : List Rc) (t i p : Int), n - i ≤ d → 0 ≤ i → drawnR i.toNat l → (0 < i → 0 < l.length) → 0 ≤ p → p + 70 * d ≤ 700000000 →
    Evs (fun k => spec_l91Records.l0 k o l n t i bs p) (fun r => drawnR (max i n).toNat r.1 ∧ (0 < max i n → 0 < r.1.length) ∧ p ≤ r.2 ∧ r.2 ≤ p + 70 * d) := by
  intro d
  induction d with
  | zero =>
    intro o l t i p hd hi hll hpos h0 h1
    refine Evs.succ ?_
    simp only [spec_l91Records.l0, if_neg (show ¬ i < n by omega)]
    exact Evs.done ⟨by dsimp only; exact drawnR_mono hll (by omega), by dsimp only; intro h; exact hpos (by omega), by dsimp only; omega, by dsimp only; omega⟩
  | succ d ih =>
    intro o l t i p hd hi hll hpos h0 h1
    refine Evs.succ ?_
    by_cases hlt : i < n
    · have e1 : wrap64 (i + 1) = i + 1 := wrap_id (by omega) (by omega)
      have hlen := hll.1
      simp only [spec_l91Records.l0, if_pos hlt]
      refine Evs.bind (part_evs bs hb hl p h0 (by omega)) ?_
      rintro ⟨kh, kl, p1⟩ ⟨hk, q0, q1⟩
      dsimp only at hk q0 q1 ⊢
      refine Evs.bind (part_evs bs hb hl p1 (by omega) (by omega)) ?_
      rintro ⟨vh, vl, p2⟩ ⟨hv, q2, q3⟩
      dsimp only at hv q2 q3 ⊢
      have main : ∀ (c : Bool) (q : Int), 0 ≤ q → p ≤ q → q ≤ p2 + 1 → Evs (fun k => spec_l91Records.j1 k o l n t i vh vl c bs q o t kh kl false) (fun r => drawnR (max i n).toNat r.1 ∧ (0 < max i n → 0 < r.1.length) ∧ p ≤ r.2 ∧ r.2 ≤ p + 70 * (d + 1 : Nat)) := by
        intro c q hq0 hq1 hq2
        refine Evs.succ ?_
        have hlim : l.length < 1759218604441 := lim2 (by omega) (by omega)
        cases c with
        | true =>
          simp only [spec_l91Records.j1, if_true, if_pos hlim, e1]
          refine Evs.bind (pick_evs bs q 3 hb hl (by omega) (by omega) (by omega)) ?_
          rintro ⟨u, _⟩ ⟨u0, u1, rfl⟩
          refine Evs.bind (pick_evs bs (q + 1) 5 hb hl (by omega) (by omega) (by omega)) ?_
          rintro ⟨v, _⟩ ⟨v0, v1, rfl⟩
          refine Evs.bind (pick_evs bs (q + 1 + 1) 30 hb hl (by omega) (by omega) (by omega)) ?_
          rintro ⟨x, _⟩ ⟨x0, x1, rfl⟩
          have h := ih (wrap64 (wrap64 (o + 1) + wrap64 (Int.tdiv v 4))) (l ++ [⟨o, t, kh, [u], vh, vl⟩]) (mx (wrap64 (wrap64 (t + x) - 6)) 0) (i + 1) (q + 1 + 1 + 1) (by omega) (by omega) (drawnR_mono (drawnR_add hll (by simp) hv) (by omega)) (fun _ => by simp) (by omega) (by omega)
          rw [show max (i + 1) n = max i n by omega] at h
          exact h.mono (fun r hr => ⟨hr.1, hr.2.1, by have := hr.2.2.1; omega, by have := hr.2.2.2; omega⟩)
        | false =>
          simp only [spec_l91Records.j1, Bool.false_eq_true, if_false, if_pos hlim, e1]
          refine Evs.bind (pick_evs bs q 5 hb hl (by omega) (by omega) (by omega)) ?_
          rintro ⟨v, _⟩ ⟨v0, v1, rfl⟩
          refine Evs.bind (pick_evs bs (q + 1) 30 hb hl (by omega) (by omega) (by omega)) ?_
          rintro ⟨x, _⟩ ⟨x0, x1, rfl⟩
          have h := ih (wrap64 (wrap64 (o + 1) + wrap64 (Int.tdiv v 4))) (l ++ [⟨o, t, kh, kl, vh, vl⟩]) (mx (wrap64 (wrap64 (t + x) - 6)) 0) (i + 1) (q + 1 + 1) (by omega) (by omega) (drawnR_mono (drawnR_add hll hk hv) (by omega)) (fun _ => by simp) (by omega) (by omega)
          rw [show max (i + 1) n = max i n by omega] at h
          exact h.mono (fun r hr => ⟨hr.1, hr.2.1, by have := hr.2.2.1; omega, by have := hr.2.2.2; omega⟩)
      by_cases hkh : kh = true
      · simp only [if_pos hkh]
        refine Evs.bind (pick_evs bs p2 2 hb hl (by omega) (by omega) (by omega)) ?_
        rintro ⟨u, _⟩ ⟨u0, u1, rfl⟩
        exact main (u == 0) (p2 + 1) (by omega) (by omega) (by omega)
      · simp only [if_neg hkh]
        exact main false p2 (by omega) (by omega) (by omega)
    · simp only [spec_l91Records.l0, if_neg hlt]
      exact Evs.done ⟨by dsimp only; exact drawnR_mono hll (by omega), by dsimp only; intro h; exact hpos (by omega), by dsimp only; omega, by dsimp only; omega⟩
theorem recs_evs (bs : List Int) (hb : Bytes bs) (hl : bs.length ≤ 2000) (p o m : Int) (h0 : 0 ≤ p) (h1 : p ≤ 600000000) (hm : 1 ≤ m) (hm2 : m ≤ 10) : Evs (fun k => spec_l91Records.f k bs p o m) (fun r => drawnR m.toNat r.1 ∧ 0 < r.1.length ∧ p ≤ r.2 ∧ r.2 ≤ p + 800) := by
  unfold spec_l91Records.f
  refine Evs.bind (pick_evs bs p m hb hl h0 (by omega) hm) ?_
  rintro ⟨u, _⟩ ⟨u0, u1, rfl⟩
  refine Evs.bind (pick_evs bs (p + 1) 200 hb hl (by omega) (by omega) (by omega)) ?_
  rintro ⟨v, _⟩ ⟨v0, v1, rfl⟩
  simp only [show wrap64 (1 + u) = 1 + u from wrap_id (by omega) (by omega)]
  have h := recs_loop bs hb hl (1 + u) (by omega) 10 o [] v 0 (p + 1 + 1) (by omega) (by omega) ⟨by simp, fun r hr => by cases hr⟩ (fun h => by omega) (by omega) (by omega)
  exact h.mono (fun r hr => ⟨drawnR_mono hr.1 (by omega), hr.2.1 (by omega), by have := hr.2.2.1; omega, by have := hr.2.2.2; omega⟩)
end Go.Proofs.Yticpnjhkdfdkkaa.Q
namespace Go.Proofs.Yticpnjhkdfdkkaa.Q
open Go.RowKit Go.Proofs.Yticpnjhkdfdkkaa.T Go.Proofs.YticpnjhkdfdkkaaW.PrintWords Go.Proofs.YticpnjhkdfdkkaaW.PrintLast
set_option linter.unusedVariables false
set_option linter.unusedSimpArgs false
abbrev Bt := S27
abbrev rb (l : List Bt) (i : Int) : Bt := rd_T27 l i
theorem rb_nat (l : List Bt) (j : Nat) (h : j < l.length) : rb l (j : Int) = l[j] := by
  unfold rb rd_T27
  rw [Int.toNat_natCast, List.getD_eq_getElem?_getD, List.getElem?_eq_getElem h]
  rfl
def smallBs (l : List Bt) : Prop := l.length ≤ 2000000 ∧ ∀ b ∈ l, smallRs b.f5
theorem smallBs_at {l : List Bt} (h : smallBs l) (j : Nat) (hj : j < l.length) : smallRs (rb l (j : Int)).f5 := by
  rw [rb_nat l j hj]
  exact h.2 _ (List.getElem_mem hj)
def fOff (b : Bt) : Int := (rr b.f5 0).f0
def lOff (b : Bt) : Int := (rr b.f5 ((b.f5.length : Int) - 1)).f0
def vB (b : Bt) : Prop := VB b.f1 b.f2 b.f3 b.f4 b.f5
theorem vB_pos {b : Bt} (h : vB b) : 1 ≤ b.f5.length ∧ b.f5.length ≤ 6 := h.2.1
theorem first_eq {b : Bt} (h : vB b) : impl_Batch_first.f b.f0 b.f1 b.f2 b.f3 b.f4 b.f5 = some (fOff b) := by
  have := vB_pos h
  unfold impl_Batch_first.f
  rw [if_pos (show 0 < (b.f5.length : Int) by omega)]
  rfl
theorem last_eq {b : Bt} (h : vB b) : impl_Batch_last.f b.f0 b.f1 b.f2 b.f3 b.f4 b.f5 = some (lOff b) := by
  have := vB_pos h
  have e : wrap64 ((b.f5.length : Int) - 1) = (b.f5.length : Int) - 1 := wrap_id (by omega) (by omega)
  unfold impl_Batch_last.f
  rw [e, if_pos (show 0 ≤ (b.f5.length : Int) - 1 by omega), if_pos (show (b.f5.length : Int) - 1 < (b.f5.length : Int) by omega)]
  rfl
theorem lastS_eq {b : Bt} (h : vB b) : spec_l12Last.f b.f0 b.f1 b.f2 b.f3 b.f4 b.f5 = some (lOff b) := by
  have := vB_pos h
  have e : wrap64 ((b.f5.length : Int) - 1) = (b.f5.length : Int) - 1 := wrap_id (by omega) (by omega)
  unfold spec_l12Last.f
  rw [e, if_pos (show 0 ≤ (b.f5.length : Int) - 1 by omega), if_pos (show (b.f5.length : Int) - 1 < (b.f5.length : Int) by omega)]
  rfl
theorem RF_lt {l : List Rc} (h : RF l 0) : ∀ (d i : Nat), i + d + 1 < l.length → (rr l (i : Int)).f0 < (rr l ((i + d + 1 : Nat) : Int)).f0
  | 0, i, hi => by
    have := (h (i + 1) (by omega) hi).2 (by omega)
    rw [show ((i + 1 : Nat) : Int) - 1 = (i : Int) by omega] at this
    exact this
  | d + 1, i, hi => by
    have h1 := RF_lt h d i (by omega)
    have := (h (i + d + 2) (by omega) (by omega)).2 (by omega)
    rw [show ((i + d + 2 : Nat) : Int) - 1 = ((i + d + 1 : Nat) : Int) by omega] at this
    exact Int.lt_trans h1 this
theorem fOff_le {b : Bt} (h : vB b) : fOff b ≤ lOff b := by
  have hp := vB_pos h
  unfold fOff lOff
  by_cases h1 : b.f5.length = 1
  · rw [h1]
    exact Int.le_refl _
  · have := RF_lt h.2.2.2 (b.f5.length - 2) 0 (by omega)
    rw [show ((0 + (b.f5.length - 2) + 1 : Nat) : Int) = (b.f5.length : Int) - 1 by omega] at this
    exact Int.le_of_lt this
theorem fOff_range {b : Bt} (h : vB b) : 0 ≤ fOff b ∧ fOff b ≤ 99999 := by
  have hp := vB_pos h
  have := (h.2.2.2 0 (Nat.le_refl _) (by omega)).1
  unfold rv at this
  rw [Bool.and_eq_true, decide_eq_true_eq] at this
  exact this.1.1
theorem lOff_range {b : Bt} (h : vB b) : 0 ≤ lOff b ∧ lOff b ≤ 99999 := by
  have hp := vB_pos h
  have := (h.2.2.2 (b.f5.length - 1) (Nat.zero_le _) (by omega)).1
  unfold rv at this
  rw [Bool.and_eq_true, decide_eq_true_eq] at this
  rw [show ((b.f5.length - 1 : Nat) : Int) = (b.f5.length : Int) - 1 by omega] at this
  exact this.1.1
def LF (l : List Bt) (i : Nat) : Prop := ∀ j, i ≤ j → j < l.length → vB (rb l j) ∧ (0 < j → lOff (rb l ((j : Int) - 1)) < fOff (rb l j))
def VL (l : List Bt) : Prop := l.length ≤ 8 ∧ LF l 0
theorem LF_end {l : List Bt} {i : Nat} (h : l.length ≤ i) : LF l i := fun j h1 h2 => by omega
theorem LF_step {l : List Bt} {i : Nat} (h : i < l.length) : LF l i ↔ (vB (rb l i) ∧ (0 < i → lOff (rb l ((i : Int) - 1)) < fOff (rb l i))) ∧ LF l (i + 1) := by
  constructor
  · intro hl
    exact ⟨hl i (Nat.le_refl _) h, fun j h1 h2 => hl j (by omega) h2⟩
  · rintro ⟨h0, h1⟩ j hj1 hj2
    by_cases he : j = i
    · subst he; exact h0
    · exact h1 j (by omega) hj2
open Classical in
noncomputable def vl (l : List Bt) : Bool := decide (VL l)
theorem vl_iff (l : List Bt) : vl l = true ↔ VL l := by unfold vl; simp
theorem vl_of {b : Bool} {l : List Bt} (h : b = true ↔ VL l) : b = vl l := by
  rw [Bool.eq_iff_iff, h, vl_iff]
theorem vb_vB (b : Bt) : vb b.f1 b.f2 b.f3 b.f4 b.f5 = true ↔ vB b := vb_iff _ _ _ _ _
theorem implLog_loop (l : List Bt) (hl : smallBs l) : ∀ (d i : Nat), l.length - i = d → i ≤ l.length → (∀ j, j < i → vB (rb l (j : Int))) → Evs (fun k => impl_LogValid.l0 k l l (l.length : Int) (i : Int)) (fun b => b = true ↔ LF l i) := by
  have hs := hl.1
  intro d
  induction d with
  | zero =>
    intro i hd hi _
    refine Evs.succ ?_
    simp only [impl_LogValid.l0, if_neg (show ¬ (i : Int) < (l.length : Int) by omega)]
    exact Evs.done ⟨fun _ => LF_end (by omega), fun _ => rfl⟩
  | succ d ih =>
    intro i hd hi hv
    have hlt : i < l.length := by omega
    have e1 : wrap64 ((i : Int) + 1) = ((i + 1 : Nat) : Int) := by rw [wrap_id (by omega) (by omega)]; omega
    refine Evs.succ ?_
    simp only [impl_LogValid.l0, if_pos (show (i : Int) < (l.length : Int) by omega), if_pos (show (0 : Int) ≤ (i : Int) by omega), e1]
    refine Evs.bind (Evs.of (implB (rb l i).f0 (rb l i).f1 (rb l i).f2 (rb l i).f3 (rb l i).f4 (rb l i).f5 (smallBs_at hl i hlt)) rfl) ?_
    rintro _ rfl
    by_cases hb : vB (rb l i)
    · have hb2 := (vb_vB (rb l i)).2 hb
      simp only [if_pos hb2]
      have hv2 : ∀ j, j < i + 1 → vB (rb l (j : Int)) := fun j hj => by
        by_cases he : j = i
        · subst he; exact hb
        · exact hv j (by omega)
      by_cases h0 : i = 0
      · subst h0
        simp only [if_neg (show ¬ ((0 : Nat) : Int) > 0 by omega)]
        refine (ih 1 (by omega) (by omega) hv2).mono fun b hb3 => ?_
        rw [hb3, LF_step hlt]
        exact ⟨fun h => ⟨⟨hb, fun h => absurd h (by omega)⟩, h⟩, fun h => h.2⟩
      · have e2 : wrap64 ((i : Int) - 1) = (i : Int) - 1 := wrap_id (by omega) (by omega)
        have hp : vB (rb l ((i : Int) - 1)) := by have := hv (i - 1) (by omega); rwa [show ((i - 1 : Nat) : Int) = (i : Int) - 1 by omega] at this
        have f1 := last_eq hp
        have f2 := first_eq hb
        simp only [if_pos (show (i : Int) > 0 by omega), e2, if_pos (show 0 ≤ (i : Int) - 1 by omega), if_pos (show (i : Int) - 1 < (l.length : Int) by omega)]
        rw [show (rd_T27 l ((i : Int) - 1)) = rb l ((i : Int) - 1) from rfl, show (rd_T27 l (i : Int)) = rb l (i : Int) from rfl, f1, f2]
        simp only [bsome]
        by_cases hc : lOff (rb l ((i : Int) - 1)) ≥ fOff (rb l i)
        · simp only [if_pos hc]
          refine Evs.done ?_
          rw [LF_step hlt]
          simp only [Bool.false_eq_true, false_iff]
          intro h
          have := h.1.2 (by omega)
          omega
        · simp only [if_neg hc]
          refine (ih (i + 1) (by omega) (by omega) hv2).mono fun b hb3 => ?_
          rw [hb3, LF_step hlt]
          exact ⟨fun h => ⟨⟨hb, fun _ => by omega⟩, h⟩, fun h => h.2⟩
    · have hb2 : ¬ vb (rb l i).f1 (rb l i).f2 (rb l i).f3 (rb l i).f4 (rb l i).f5 = true := fun h => hb ((vb_vB (rb l i)).1 h)
      simp only [if_neg hb2]
      refine Evs.done ?_
      rw [LF_step hlt]
      simp only [Bool.false_eq_true, false_iff]
      exact fun h => hb h.1.1
theorem implLog (l : List Bt) (hl : smallBs l) : Ev (fun k => impl_LogValid.f k l) (vl l) := by
  have hs := hl.1
  unfold impl_LogValid.f
  by_cases h : (l.length : Int) > 8
  · simp only [if_pos h]
    have : vl l = false := by rw [← Bool.not_eq_true, vl_iff]; exact fun h2 => by have := h2.1; omega
    rw [this]
    exact ev_some _
  · simp only [if_neg h]
    obtain ⟨b, h1, h2⟩ := implLog_loop l hl l.length 0 (by omega) (by omega) (fun j hj => by omega)
    have : b = vl l := vl_of (h2.trans ⟨fun h3 => ⟨by omega, h3⟩, fun h3 => h3.2⟩)
    rw [← this]
    exact h1
theorem specLog_loop (l : List Bt) (hl : smallBs l) : ∀ (d i : Nat), l.length - i = d → i ≤ l.length → (∀ j, j < i → vB (rb l (j : Int))) → Evs (fun k => spec_LogValid.l0 k l (i : Int)) (fun b => b = true ↔ LF l i ∧ l.length ≤ 8) := by
  have hs := hl.1
  intro d
  induction d with
  | zero =>
    intro i hd hi _
    refine Evs.succ ?_
    simp only [spec_LogValid.l0, if_neg (show ¬ (i : Int) < (l.length : Int) by omega)]
    refine Evs.done ?_
    rw [decide_eq_true_eq]
    exact ⟨fun h => ⟨LF_end (by omega), by omega⟩, fun h => by omega⟩
  | succ d ih =>
    intro i hd hi hv
    have hlt : i < l.length := by omega
    have e1 : wrap64 ((i : Int) + 1) = ((i + 1 : Nat) : Int) := by rw [wrap_id (by omega) (by omega)]; omega
    refine Evs.succ ?_
    simp only [spec_LogValid.l0, if_pos (show (i : Int) < (l.length : Int) by omega), if_pos (show (0 : Int) ≤ (i : Int) by omega), e1]
    refine Evs.bind (Evs.of (specB (rb l i).f0 (rb l i).f1 (rb l i).f2 (rb l i).f3 (rb l i).f4 (rb l i).f5 (smallBs_at hl i hlt)) rfl) ?_
    rintro _ rfl
    by_cases hb : vB (rb l i)
    · have hb2 := (vb_vB (rb l i)).2 hb
      simp only [if_pos hb2]
      have hv2 : ∀ j, j < i + 1 → vB (rb l (j : Int)) := fun j hj => by
        by_cases he : j = i
        · subst he; exact hb
        · exact hv j (by omega)
      by_cases h0 : i = 0
      · subst h0
        simp only [if_neg (show ¬ ((0 : Nat) : Int) > 0 by omega)]
        refine (ih 1 (by omega) (by omega) hv2).mono fun b hb3 => ?_
        rw [hb3, LF_step hlt]
        exact ⟨fun h => ⟨⟨⟨hb, fun h => absurd h (by omega)⟩, h.1⟩, h.2⟩, fun h => ⟨h.1.2, h.2⟩⟩
      · have e2 : wrap64 ((i : Int) - 1) = (i : Int) - 1 := wrap_id (by omega) (by omega)
        have hp : vB (rb l ((i : Int) - 1)) := by have := hv (i - 1) (by omega); rwa [show ((i - 1 : Nat) : Int) = (i : Int) - 1 by omega] at this
        have f1 := lastS_eq hp
        have hpos := (vB_pos hb).1
        simp only [if_pos (show (i : Int) > 0 by omega), e2, if_pos (show 0 ≤ (i : Int) - 1 by omega), if_pos (show (i : Int) - 1 < (l.length : Int) by omega)]
        rw [show (rd_T27 l ((i : Int) - 1)) = rb l ((i : Int) - 1) from rfl, show (rd_T27 l (i : Int)) = rb l (i : Int) from rfl, f1]
        simp only [bsome, if_pos (show 0 < ((rb l (i : Int)).f5.length : Int) by omega)]
        by_cases hc : lOff (rb l ((i : Int) - 1)) ≥ fOff (rb l i)
        · simp only [if_pos (show lOff (rb l ((i : Int) - 1)) ≥ (rd_T34 (rb l (i : Int)).f5 0).f0 from hc)]
          refine Evs.done ?_
          rw [LF_step hlt]
          simp only [Bool.false_eq_true, false_iff]
          intro h
          have := h.1.1.2 (by omega)
          omega
        · simp only [if_neg (show ¬ lOff (rb l ((i : Int) - 1)) ≥ (rd_T34 (rb l (i : Int)).f5 0).f0 from hc)]
          refine (ih (i + 1) (by omega) (by omega) hv2).mono fun b hb3 => ?_
          rw [hb3, LF_step hlt]
          exact ⟨fun h => ⟨⟨⟨hb, fun _ => by omega⟩, h.1⟩, h.2⟩, fun h => ⟨h.1.2, h.2⟩⟩
    · have hb2 : ¬ vb (rb l i).f1 (rb l i).f2 (rb l i).f3 (rb l i).f4 (rb l i).f5 = true := fun h => hb ((vb_vB (rb l i)).1 h)
      simp only [if_neg hb2]
      refine Evs.done ?_
      rw [LF_step hlt]
      simp only [Bool.false_eq_true, false_iff]
      exact fun h => hb h.1.1.1
theorem specLog (l : List Bt) (hl : smallBs l) : Ev (fun k => spec_LogValid.f k l) (vl l) := by
  unfold spec_LogValid.f
  obtain ⟨b, h1, h2⟩ := specLog_loop l hl l.length 0 (by omega) (by omega) (fun j hj => by omega)
  have : b = vl l := vl_of (h2.trans ⟨fun h3 => ⟨h3.2, h3.1⟩, fun h3 => ⟨h3.2, h3.1⟩⟩)
  rw [← this]
  exact h1
theorem VL_at {l : List Bt} (h : VL l) (j : Nat) (hj : j < l.length) : vB (rb l (j : Int)) := (h.2 j (Nat.zero_le _) hj).1
end Go.Proofs.Yticpnjhkdfdkkaa.Q
namespace Go.Proofs.Yticpnjhkdfdkkaa.Q
open Go.RowKit Go.Proofs.Yticpnjhkdfdkkaa.T Go.Proofs.YticpnjhkdfdkkaaW.PrintWords Go.Proofs.YticpnjhkdfdkkaaW.PrintLast
set_option linter.unusedVariables false
set_option linter.unusedSimpArgs false
theorem markRow_small (o t : Int) (g : Bool) : smallRs (markRow o t g) := by
  refine ⟨by simp [markRow], fun r hr => ?_⟩
  rw [List.mem_singleton.1 hr]
  exact ⟨by simp, by simp⟩
noncomputable def markB (p e o t : Int) (g : Bool) : Bool × Bool × Int × Int × Int × List Rc × Bool := if vb true p e 0 (markRow o t g) = true then (false, true, p, e, 0, markRow o t g, true) else (false, false, 0, 0, 0, [], false)
theorem specMark (p e o t : Int) (g : Bool) : Ev (fun k => spec_MarkBatch.f k p e o t g) (markB p e o t g) := by
  have h := specB false true p e 0 (markRow o t g) (markRow_small o t g)
  unfold spec_MarkBatch.f markB
  refine Ev.bind h ?_
  by_cases hv : vb true p e 0 (markRow o t g) = true
  · simp only [if_pos hv]; exact ev_some _
  · simp only [if_neg hv]; exact ev_some _
end Go.Proofs.Yticpnjhkdfdkkaa.Q
namespace Go.Proofs.Yticpnjhkdfdkkaa.Q
open Go.RowKit Go.Proofs.Yticpnjhkdfdkkaa.T Go.Proofs.YticpnjhkdfdkkaaW.PrintWords Go.Proofs.YticpnjhkdfdkkaaW.PrintLast
set_option linter.unusedVariables false
set_option linter.unusedSimpArgs false
def drawnBs (n : Nat) (l : List Bt) : Prop := l.length ≤ n ∧ ∀ b ∈ l, drawnR 5 b.f5
theorem drawnBs_add {n : Nat} {l : List Bt} (h : drawnBs n l) {b : Bt} (hb : drawnR 5 b.f5) : drawnBs (n + 1) (l ++ [b]) := by
  refine ⟨by have := h.1; simp; omega, fun x hx => ?_⟩
  rcases List.mem_append.1 hx with hx | hx
  · exact h.2 x hx
  · rw [List.mem_singleton.1 hx]; exact hb
theorem drawnBs_mono {n m : Nat} {l : List Bt} (h : drawnBs n l) (hm : n ≤ m) : drawnBs m l := ⟨by have := h.1; omega, h.2⟩
theorem drawnBs_small {l : List Bt} (h : drawnBs 10 l) : smallBs l := ⟨by have := h.1; omega, fun b hb => drawnR_small (by omega) (h.2 b hb)⟩
theorem drawnBs_set {n : Nat} {l : List Bt} (h : drawnBs n l) (i : Nat) {b : Bt} (hb : drawnR 5 b.f5) : drawnBs n (l.set i b) := by
  refine ⟨by rw [List.length_set]; exact h.1, fun x hx => ?_⟩
  rcases List.mem_or_eq_of_mem_set hx with hx | hx
  · exact h.2 x hx
  · rw [hx]; exact hb
theorem markRow_drawn (o t : Int) (g : Bool) : drawnR 5 (markRow o t g) := by
  refine ⟨by simp [markRow], fun r hr => ?_⟩
  rw [List.mem_singleton.1 hr]
  exact ⟨by simp, by simp⟩
theorem decided_loop (bs : List Int) (hb : Bytes bs) (hl : bs.length ≤ 2000) (n : Int) (hn : n ≤ 10) (hn2 : 1 ≤ n) : ∀ (d : Nat) (l : List Bt) (o i p : Int), n - i ≤ d → 0 ≤ i → i ≤ n → drawnBs i.toNat l → (0 < i → 0 < l.length) → 0 ≤ p → p + 1000 * d ≤ 400000000 →
    Evs (fun k => spec_l92Decided.l0 k l n o i bs p) (fun r => drawnBs 10 r.1) := by
  intro d
  induction d with
  | zero =>
    intro l o i p hd hi hin hdr hpos h0 h1
    refine Evs.succ ?_
    simp only [spec_l92Decided.l0, if_neg (show ¬ i < n by omega)]
    refine Evs.bind (pick_evs bs p 24 hb hl h0 (by omega) (by omega)) ?_
    rintro ⟨u, _⟩ ⟨u0, u1, rfl⟩
    by_cases hu : u = 0
    · have hlp := hpos (by omega)
      simp only [if_pos hu, if_pos (show 0 < (l.length : Int) by omega)]
      refine Evs.done (drawnBs_set (drawnBs_mono hdr (by omega)) _ ?_)
      show drawnR 5 (rb l ((0 : Nat) : Int)).f5
      rw [rb_nat l 0 hlp]
      exact hdr.2 _ (List.getElem_mem hlp)
    · simp only [if_neg hu]
      exact Evs.done (drawnBs_mono hdr (by omega))
  | succ d ih =>
    intro l o i p hd hi hin hdr hpos h0 h1
    by_cases hlt : i < n
    · have e1 : wrap64 (i + 1) = i + 1 := wrap_id (by omega) (by omega)
      have hlen := hdr.1
      refine Evs.succ ?_
      simp only [spec_l92Decided.l0, if_pos hlt]
      refine Evs.bind (pick_evs bs p 2 hb hl h0 (by omega) (by omega)) ?_
      rintro ⟨u, _⟩ ⟨u0, u1, rfl⟩
      refine Evs.bind (recs_evs bs hb hl (p + 1) o 2 (by omega) (by omega) (by omega) (by omega)) ?_
      rintro ⟨rs, q⟩ ⟨hd4, hrp, q0, q1⟩
      dsimp only at hd4 hrp q0 q1 ⊢
      have hlen2 := hd4.1
      refine Evs.bind (pick_evs bs q 6 hb hl (by omega) (by omega) (by omega)) ?_
      rintro ⟨v, _⟩ ⟨v0, v1, rfl⟩
      have next : ∀ (b : Bt) (o' p' : Int), drawnR 5 b.f5 → 0 ≤ p' → p' ≤ p + 1000 → Evs (fun k => spec_l92Decided.l0 k (l ++ [b]) n o' (i + 1) bs p') (fun r => drawnBs 10 r.1) := fun b o' p' hb' h0' h1' =>
        ih (l ++ [b]) o' (i + 1) p' (by omega) (by omega) (by omega) (drawnBs_mono (drawnBs_add hdr hb') (by omega)) (fun _ => by simp) h0' (by omega)
      have hlim : l.length < 2513169434916 := lim2 (by omega) (by omega)
      have w1 : ∀ x : List Rc, 0 < x.length → x.length ≤ 5 → wrap64 ((x.length : Int) - 1) = (x.length : Int) - 1 := fun x hx hx2 => wrap_id (by omega) (by omega)
      have main : ∀ c : Bool, Evs (fun k => spec_l92Decided.j1 k l n o i v c bs (q + 1) false false u 0 0 rs) (fun r => drawnBs 10 r.1) := by
        intro c
        refine Evs.succ ?_
        cases c with
        | true =>
          simp only [spec_l92Decided.j1, if_true]
          refine Evs.bind (pick_evs bs (q + 1) 2 hb hl (by omega) (by omega) (by omega)) ?_
          rintro ⟨a, _⟩ ⟨a0, a1, rfl⟩
          refine Evs.bind (pick_evs bs (q + 1 + 1) 100 hb hl (by omega) (by omega) (by omega)) ?_
          rintro ⟨c1, _⟩ ⟨c0, c2, rfl⟩
          refine Evs.bind (pick_evs bs (q + 1 + 1 + 1) 2 hb hl (by omega) (by omega) (by omega)) ?_
          rintro ⟨e, _⟩ ⟨e0, e2, rfl⟩
          refine Evs.bind (Evs.of (specMark a 0 o c1 (e == 0)) rfl) ?_
          rintro _ rfl
          unfold markB
          by_cases hv : vb true a 0 0 (markRow o c1 (e == 0)) = true
          · have hml : (markRow o c1 (e == 0)).length = 1 := by simp [markRow]
            simp only [if_pos hv, if_true, if_pos hlim, w1 _ (show 0 < (markRow o c1 (e == 0)).length by omega) (by omega), if_pos (show 0 ≤ ((markRow o c1 (e == 0)).length : Int) - 1 by omega), if_pos (show ((markRow o c1 (e == 0)).length : Int) - 1 < ((markRow o c1 (e == 0)).length : Int) by omega), e1]
            exact next _ _ _ (markRow_drawn _ _ _) (by omega) (by omega)
          · simp only [if_neg hv, Bool.false_eq_true, if_false, if_pos hlim, w1 rs hrp (by omega), if_pos (show 0 ≤ (rs.length : Int) - 1 by omega), if_pos (show (rs.length : Int) - 1 < (rs.length : Int) by omega), e1]
            exact next _ _ _ (drawnR_mono hd4 (by omega)) (by omega) (by omega)
        | false =>
          simp only [spec_l92Decided.j1, Bool.false_eq_true, if_false]
          by_cases hv2 : v = 2
          · simp only [if_pos hv2, if_pos hlim, w1 rs hrp (by omega), if_pos (show 0 ≤ (rs.length : Int) - 1 by omega), if_pos (show (rs.length : Int) - 1 < (rs.length : Int) by omega), e1]
            exact next _ _ _ (drawnR_mono hd4 (by omega)) (by omega) (by omega)
          · simp only [if_neg hv2, if_pos hlim, w1 rs hrp (by omega), if_pos (show 0 ≤ (rs.length : Int) - 1 by omega), if_pos (show (rs.length : Int) - 1 < (rs.length : Int) by omega), e1]
            exact next _ _ _ (drawnR_mono hd4 (by omega)) (by omega) (by omega)
      by_cases hv0 : v = 0
      · simp only [if_pos hv0]; exact main _
      · simp only [if_neg hv0]; exact main _
    · have hni : i = n := by omega
      subst hni
      refine Evs.succ ?_
      simp only [spec_l92Decided.l0, if_neg (show ¬ i < i by omega)]
      refine Evs.bind (pick_evs bs p 24 hb hl h0 (by omega) (by omega)) ?_
      rintro ⟨u, _⟩ ⟨u0, u1, rfl⟩
      by_cases hu : u = 0
      · have hlp := hpos (by omega)
        simp only [if_pos hu, if_pos (show 0 < (l.length : Int) by omega)]
        refine Evs.done (drawnBs_set (drawnBs_mono hdr (by omega)) _ ?_)
        show drawnR 5 (rb l ((0 : Nat) : Int)).f5
        rw [rb_nat l 0 hlp]
        exact hdr.2 _ (List.getElem_mem hlp)
      · simp only [if_neg hu]
        exact Evs.done (drawnBs_mono hdr (by omega))
theorem decided_evs (bs : List Int) (hb : Bytes bs) (hl : bs.length ≤ 2000) : Evs (fun k => spec_l92Decided.f k bs 0) (fun r => drawnBs 10 r.1) := by
  unfold spec_l92Decided.f
  refine Evs.bind (pick_evs bs 0 6 hb hl (by omega) (by omega) (by omega)) ?_
  rintro ⟨u, _⟩ ⟨u0, u1, rfl⟩
  refine Evs.bind (pick_evs bs (0 + 1) 5 hb hl (by omega) (by omega) (by omega)) ?_
  rintro ⟨v, _⟩ ⟨v0, v1, rfl⟩
  have e : wrap64 (2 + u) = 2 + u := wrap_id (by omega) (by omega)
  simp only [e]
  exact decided_loop bs hb hl (2 + u) (by omega) (by omega) 10 [] v 0 (0 + 1 + 1) (by omega) (by omega) (by omega) ⟨by simp, fun b hb => by cases hb⟩ (fun h => by omega) (by omega) (by omega)
end Go.Proofs.Yticpnjhkdfdkkaa.Q
namespace Go.Proofs.Yticpnjhkdfdkkaa.Q
open Go.RowKit Go.Proofs.Yticpnjhkdfdkkaa.T Go.Proofs.YticpnjhkdfdkkaaW.PrintWords Go.Proofs.YticpnjhkdfdkkaaW.PrintLast
set_option linter.unusedVariables false
set_option linter.unusedSimpArgs false
theorem drawStable {l0 : List Int} (hb : Bytes l0) : Evs (fun k => spec_DrawStableEnd.f k l0) (fun r => drawnBs 10 r) := by
  obtain ⟨b, ho, hb2, hbl⟩ := open_ev l0 hb
  unfold spec_DrawStableEnd.f
  simp only [ho, bsome]
  refine Evs.bind (decided_evs b hb2 hbl) ?_
  rintro ⟨r, p⟩ h
  exact Evs.done h
end Go.Proofs.Yticpnjhkdfdkkaa.Q
namespace Go.Proofs.Yticpnjhkdfdkkaa.Q
open Go.RowKit Go.Proofs.Yticpnjhkdfdkkaa.T Go.Proofs.YticpnjhkdfdkkaaW.PrintWords Go.Proofs.YticpnjhkdfdkkaaW.PrintLast
set_option linter.unusedVariables false
set_option linter.unusedSimpArgs false
abbrev pr (l : List Bt) (i : Nat) : Int := (rb l (i : Int)).f2
abbrev mk (l : List Bt) (i : Nat) : Bool := (rb l (i : Int)).f1
def nm (l : List Bt) : Nat → Nat → Option Nat
  | 0, _ => none
  | k + 1, i => match nm l k i with
    | some j => some j
    | none => if i < k ∧ mk l k = true ∧ pr l k = pr l i then some k else none
theorem nm_succ_some {l : List Bt} {k i j : Nat} (h : nm l k i = some j) : nm l (k + 1) i = some j := by simp only [nm, h]
theorem nm_le {l : List Bt} {i j : Nat} : ∀ {k m : Nat}, nm l k i = some j → k ≤ m → nm l m i = some j := by
  intro k m h hk
  induction m with
  | zero => have : k = 0 := by omega
            subst this; exact h
  | succ m ih =>
    by_cases he : k = m + 1
    · subst he; exact h
    · exact nm_succ_some (ih (by omega))
theorem nm_self {l : List Bt} : ∀ {k i : Nat}, k ≤ i + 1 → nm l k i = none
  | 0, _, _ => rfl
  | k + 1, i, h => by
    simp only [nm, nm_self (show k ≤ i + 1 by omega)]
    rw [if_neg (by omega)]
def wAt (l : List Bt) (k i : Nat) : Int := if pr l i = 255 then 1 else if mk l i = true then 3 else match nm l k i with
  | none => 0
  | some j => if tellsP (rb l (j : Int)) = true then 1 else 2
def bAt (l : List Bt) (k i : Nat) : Int := if pr l i = 255 then -1 else if mk l i = true then -1 else match nm l k i with
  | none => -1
  | some j => (j : Int)
def opens (l : List Bt) (k i : Nat) : Bool := decide (pr l i ≠ 255) && (!mk l i && (nm l k i).isNone)
theorem fold_fin (l : List Bt) (i : Nat) : ∀ (xs : List Nat) (s : FSt), (∀ x ∈ xs, x < s.ws.length ∧ x < s.bs.length) →
    (xs.foldl (fin1 l i) s).op = s.op ++ xs.filter (fun x => decide (pr l x ≠ pr l i)) ∧
    (∀ y, (xs.foldl (fin1 l i) s).ws.getD y 0 = if y ∈ xs ∧ pr l y = pr l i then (if tellsP (rb l (i : Int)) = true then 1 else 2) else s.ws.getD y 0) ∧
    (∀ y, (xs.foldl (fin1 l i) s).bs.getD y 0 = if y ∈ xs ∧ pr l y = pr l i then (i : Int) else s.bs.getD y 0)
  | [], s, _ => by simp
  | x :: xs, s, h => by
    have hx := h x (by simp)
    by_cases hp : pr l x = pr l i
    · have hf : fin1 l i s x = ⟨s.ws.set x (if tellsP (rb l (i : Int)) = true then 1 else 2), s.bs.set x (i : Int), s.op⟩ := if_pos hp
      have ih := fold_fin l i xs (fin1 l i s x) (fun y hy => by rw [hf]; simpa using h y (by simp [hy]))
      rw [List.foldl_cons]
      rw [hf] at ih ⊢
      refine ⟨?_, fun y => ?_, fun y => ?_⟩
      · rw [ih.1]; simp [hp]
      · rw [ih.2.1 y]
        by_cases hy : y = x
        · subst hy
          simp [hp, List.getD_eq_getElem?_getD, List.getElem?_set_self hx.1]
        · simp [hy, List.getD_eq_getElem?_getD, List.getElem?_set_ne (Ne.symm hy)]
      · rw [ih.2.2 y]
        by_cases hy : y = x
        · subst hy
          simp [hp, List.getD_eq_getElem?_getD, List.getElem?_set_self hx.2]
        · simp [hy, List.getD_eq_getElem?_getD, List.getElem?_set_ne (Ne.symm hy)]
    · have hf : fin1 l i s x = ⟨s.ws, s.bs, s.op ++ [x]⟩ := if_neg hp
      have ih := fold_fin l i xs (fin1 l i s x) (fun y hy => by rw [hf]; exact h y (by simp [hy]))
      rw [List.foldl_cons]
      rw [hf] at ih ⊢
      refine ⟨?_, fun y => ?_, fun y => ?_⟩
      · rw [ih.1]; simp [hp]
      · rw [ih.2.1 y]
        by_cases hy : y = x
        · subst hy; simp [hp]
        · simp [hy]
      · rw [ih.2.2 y]
        by_cases hy : y = x
        · subst hy; simp [hp]
        · simp [hy]
structure FP (l : List Bt) (k : Nat) (s : FSt) : Prop where
  op : s.op = (List.range k).filter (opens l k)
  ws : ∀ i, i < k → s.ws.getD i 0 = wAt l k i
  wz : ∀ i, k ≤ i → s.ws.getD i 0 = 0
  bs : ∀ i, i < k → s.bs.getD i 0 = bAt l k i
theorem nm_step {l : List Bt} {k i : Nat} (h : ¬ (mk l k = true ∧ pr l k = pr l i)) : nm l (k + 1) i = nm l k i := by
  cases hn : nm l k i with
  | some j => exact nm_succ_some hn
  | none => simp only [nm, hn]; rw [if_neg (fun h2 => h h2.2)]
theorem FP_step {l : List Bt} {k : Nat} (hk : k < l.length) {s : FSt} (hok : FOk l.length k s) (h : FP l k s) : FP l (k + 1) (fstep l s k) := by
  have hlw := hok.lw
  have hlb := hok.lb
  have gs : ∀ (a : List Int) (i x : Nat) (v : Int), x < a.length → (a.set x v).getD i 0 = if i = x then v else a.getD i 0 := by
    intro a i x v hx
    by_cases hi : i = x
    · subst hi; simp [List.getD_eq_getElem?_getD, List.getElem?_set_self hx]
    · simp [hi, List.getD_eq_getElem?_getD, List.getElem?_set_ne (Ne.symm hi)]
  unfold fstep
  by_cases h255 : pr l k = 255
  · rw [if_pos h255]
    have same : ∀ i, pr l i ≠ 255 → nm l (k + 1) i = nm l k i := fun i hi => nm_step (fun h2 => hi (h2.2.symm.trans h255))
    refine ⟨?_, fun i hi => ?_, fun i hi => ?_, fun i hi => ?_⟩
    · dsimp only
      rw [h.op, List.range_succ, List.filter_append]
      have h1 : [k].filter (opens l (k + 1)) = [] := by simp [opens, h255]
      rw [h1, List.append_nil]
      refine List.filter_congr (fun i hi => ?_)
      unfold opens
      by_cases hp : pr l i = 255
      · simp [hp]
      · rw [same i hp]
    · dsimp only
      rw [gs _ _ _ _ (by omega)]
      by_cases he : i = k
      · rw [if_pos he, he]; unfold wAt; rw [if_pos h255]
      · rw [if_neg he, h.ws i (by omega)]
        unfold wAt
        by_cases hp : pr l i = 255
        · rw [if_pos hp, if_pos hp]
        · rw [if_neg hp, if_neg hp, same i hp]
    · dsimp only
      rw [gs _ _ _ _ (by omega), if_neg (by omega)]
      exact h.wz i (by omega)
    · dsimp only
      rw [gs _ _ _ _ (by omega)]
      by_cases he : i = k
      · rw [if_pos he, he]; unfold bAt; rw [if_pos h255]
      · rw [if_neg he, h.bs i (by omega)]
        unfold bAt
        by_cases hp : pr l i = 255
        · rw [if_pos hp, if_pos hp]
        · rw [if_neg hp, if_neg hp, same i hp]
  · rw [if_neg h255]
    by_cases hm : mk l k = false
    · rw [if_pos hm]
      have same : ∀ i, nm l (k + 1) i = nm l k i := fun i => nm_step (fun h2 => by rw [hm] at h2; cases h2.1)
      have hk0 : nm l (k + 1) k = none := nm_self (Nat.le_refl _)
      refine ⟨?_, fun i hi => ?_, fun i hi => ?_, fun i hi => ?_⟩
      · dsimp only
        rw [h.op, List.range_succ, List.filter_append]
        have h1 : [k].filter (opens l (k + 1)) = [k] := by simp [opens, h255, hm, hk0]
        rw [h1]
        congr 1
        refine List.filter_congr (fun i hi => ?_)
        unfold opens
        rw [same i]
      · dsimp only
        by_cases he : i = k
        · rw [he, h.wz k (Nat.le_refl _)]
          unfold wAt
          rw [if_neg h255, if_neg (by rw [hm]; simp), hk0]
        · rw [h.ws i (by omega)]
          unfold wAt
          rw [same i]
      · dsimp only
        exact h.wz i (by omega)
      · dsimp only
        rw [gs _ _ _ _ (by omega)]
        by_cases he : i = k
        · rw [if_pos he, he]; unfold bAt; rw [if_neg h255, if_neg (by rw [hm]; simp), hk0]
        · rw [if_neg he, h.bs i (by omega)]
          unfold bAt
          rw [same i]
    · have hm' : mk l k = true := by simpa using hm
      rw [if_neg hm]
      have hop : ∀ x, x ∈ s.op ↔ x < k ∧ pr l x ≠ 255 ∧ mk l x = false ∧ nm l k x = none := by
        intro x
        rw [h.op, List.mem_filter, List.mem_range]
        simp [opens]
      have hF := fold_fin l k s.op ⟨s.ws.set k 3, s.bs.set k (-1), []⟩ (fun x hx => by
        have := hok.op x hx
        simp only [List.length_set]
        omega)
      dsimp only at hF
      have hn : ∀ i, i < k → nm l (k + 1) i = match nm l k i with | some j => some j | none => if pr l k = pr l i then some k else none := by
        intro i hi
        simp only [nm]
        cases nm l k i with
        | some j => rfl
        | none => simp [hi, hm']
      refine ⟨?_, fun i hi => ?_, fun i hi => ?_, fun i hi => ?_⟩
      · rw [hF.1, List.nil_append, h.op, List.range_succ, List.filter_append, List.filter_filter]
        have h1 : [k].filter (opens l (k + 1)) = [] := by simp [opens, hm']
        rw [h1, List.append_nil]
        refine List.filter_congr (fun i hi => ?_)
        rw [List.mem_range] at hi
        unfold opens
        rw [hn i hi]
        cases hni : nm l k i with
        | some j => simp
        | none =>
          by_cases hp : pr l k = pr l i
          · simp [hp]
          · have hp2 : ¬ pr l i = pr l k := fun e => hp e.symm
            simp [hp, hp2]
      · rw [hF.2.1 i]
        by_cases he : i = k
        · subst he
          rw [if_neg (by rw [hop]; omega), gs _ _ _ _ (by omega), if_pos rfl]
          unfold wAt
          rw [if_neg h255, if_pos hm']
        · have hik : i < k := by omega
          rw [gs _ _ _ _ (by omega), if_neg he, h.ws i hik]
          unfold wAt
          by_cases hp : pr l i = 255
          · rw [if_neg (by rw [hop]; exact fun h2 => h2.1.2.1 hp), if_pos hp, if_pos hp]
          · rw [if_neg hp, if_neg hp]
            by_cases hmi : mk l i = true
            · rw [if_neg (by rw [hop]; intro h2; rw [hmi] at h2; cases h2.1.2.2.1), if_pos hmi, if_pos hmi]
            · rw [if_neg hmi, if_neg hmi, hn i hik]
              cases hni : nm l k i with
              | some j => rw [if_neg (by rw [hop, hni]; intro h2; cases h2.1.2.2.2)]
              | none =>
                by_cases hpk : pr l i = pr l k
                · rw [if_pos ⟨(hop i).2 ⟨hik, hp, by simpa using hmi, hni⟩, hpk⟩]
                  simp [hpk]
                · rw [if_neg (fun h2 => hpk h2.2)]
                  have hp2 : ¬ pr l k = pr l i := fun e => hpk e.symm
                  simp [hp2]
      · rw [hF.2.1 i, if_neg (by rw [hop]; omega), gs _ _ _ _ (by omega), if_neg (by omega)]
        exact h.wz i (by omega)
      · rw [hF.2.2 i]
        by_cases he : i = k
        · subst he
          rw [if_neg (by rw [hop]; omega), gs _ _ _ _ (by omega), if_pos rfl]
          unfold bAt
          rw [if_neg h255, if_pos hm']
        · have hik : i < k := by omega
          rw [gs _ _ _ _ (by omega), if_neg he, h.bs i hik]
          unfold bAt
          by_cases hp : pr l i = 255
          · rw [if_neg (by rw [hop]; exact fun h2 => h2.1.2.1 hp), if_pos hp, if_pos hp]
          · rw [if_neg hp, if_neg hp]
            by_cases hmi : mk l i = true
            · rw [if_neg (by rw [hop]; intro h2; rw [hmi] at h2; cases h2.1.2.2.1), if_pos hmi, if_pos hmi]
            · rw [if_neg hmi, if_neg hmi, hn i hik]
              cases hni : nm l k i with
              | some j => rw [if_neg (by rw [hop, hni]; intro h2; cases h2.1.2.2.2)]
              | none =>
                by_cases hpk : pr l i = pr l k
                · rw [if_pos ⟨(hop i).2 ⟨hik, hp, by simpa using hmi, hni⟩, hpk⟩]
                  simp [hpk]
                · rw [if_neg (fun h2 => hpk h2.2)]
                  have hp2 : ¬ pr l k = pr l i := fun e => hpk e.symm
                  simp [hp2]
theorem FP_all (l : List Bt) : ∀ k, k ≤ l.length → FP l k (fatesTo l k)
  | 0, _ => ⟨by simp [fatesTo, fates0], fun i h => by omega, fun i h => by simp [fatesTo, fates0, List.getD_eq_getElem?_getD, List.getElem?_replicate]; split <;> rfl, fun i h => by omega⟩
  | k + 1, h => by
    rw [fatesTo_succ]
    exact FP_step (by omega) (fates_ok l k (by omega)) (FP_all l k (by omega))
theorem fates_len (l : List Bt) : (fatesTo l l.length).ws.length = l.length ∧ (fatesTo l l.length).bs.length = l.length := ⟨(fates_ok l _ (Nat.le_refl _)).lw, (fates_ok l _ (Nat.le_refl _)).lb⟩
theorem fates_w (l : List Bt) (i : Nat) (h : i < l.length) : rd (fatesTo l l.length).ws (i : Int) = wAt l l.length i := by
  have := (FP_all l l.length (Nat.le_refl _)).ws i h
  unfold rd
  rwa [Int.toNat_natCast]
theorem fates_fit {l : List Bt} (h : VL l) : impl_fatesOf.f l = some ((fatesTo l l.length).ws, (fatesTo l l.length).bs) := by
  unfold impl_fatesOf.f
  rw [if_pos]
  unfold fatesFit
  rw [Bool.and_eq_true, decide_eq_true_eq, List.all_eq_true]
  refine ⟨by have := h.1; omega, fun b hb => ?_⟩
  obtain ⟨j, hj, rfl⟩ := List.getElem_of_mem hb
  have := (vB_pos (VL_at h j hj)).1
  rw [rb_nat l j hj] at this
  exact decide_eq_true (by omega)
end Go.Proofs.Yticpnjhkdfdkkaa.Q
namespace Go.Proofs.Yticpnjhkdfdkkaa.Q
open Go.RowKit Go.Proofs.Yticpnjhkdfdkkaa.T Go.Proofs.YticpnjhkdfdkkaaW.PrintWords Go.Proofs.YticpnjhkdfdkkaaW.PrintLast
set_option linter.unusedVariables false
set_option linter.unusedSimpArgs false
def nmI : Option Nat → Int
  | none => -1
  | some j => (j : Int)
theorem specMark_loop (l : List Bt) (hl : l.length ≤ 2000000) (i : Nat) (hi : i < l.length) : ∀ (d j : Nat), l.length - j = d → i < j → j ≤ l.length → nm l j i = none → Ev (fun k => spec_l22Mark.l0 k l (i : Int) (j : Int)) (nmI (nm l l.length i)) := by
  intro d
  induction d with
  | zero =>
    intro j hd h1 h2 hn
    have hj : j = l.length := by omega
    subst hj
    refine ev_succ ?_
    simp only [spec_l22Mark.l0, if_neg (show ¬ (l.length : Int) < (l.length : Int) by omega), hn]
    exact ev_some _
  | succ d ih =>
    intro j hd h1 h2 hn
    have e1 : wrap64 ((j : Int) + 1) = ((j + 1 : Nat) : Int) := by rw [wrap_id (by omega) (by omega)]; omega
    refine ev_succ ?_
    simp only [spec_l22Mark.l0, if_pos (show (j : Int) < (l.length : Int) by omega), if_pos (show (0 : Int) ≤ (j : Int) by omega), e1]
    have next : ¬ (mk l j = true ∧ pr l j = pr l i) → Ev (fun k => spec_l22Mark.l0 k l (i : Int) ((j + 1 : Nat) : Int)) (nmI (nm l l.length i)) := fun h => ih (j + 1) (by omega) (by omega) (by omega) (by rw [nm_step h]; exact hn)
    by_cases hm : mk l j = true
    · simp only [if_pos (show (rd_T27 l (j : Int)).f1 = true from hm), if_pos (show (0 : Int) ≤ (i : Int) by omega), if_pos (show (i : Int) < (l.length : Int) by omega)]
      by_cases hp : pr l j = pr l i
      · simp only [if_pos (show (rd_T27 l (j : Int)).f2 = (rd_T27 l (i : Int)).f2 from hp)]
        have h3 : nm l (j + 1) i = some j := by simp only [nm, hn]; rw [if_pos ⟨h1, hm, hp⟩]
        rw [nm_le h3 (by omega)]
        exact ev_some _
      · simp only [if_neg (show ¬ (rd_T27 l (j : Int)).f2 = (rd_T27 l (i : Int)).f2 from hp)]
        exact next (fun h => hp h.2)
    · simp only [if_neg (show ¬ (rd_T27 l (j : Int)).f1 = true from hm)]
      exact next (fun h => hm h.1)
theorem specMarkAt (l : List Bt) (hl : l.length ≤ 2000000) (i : Nat) (hi : i < l.length) : Ev (fun k => spec_l22Mark.f k l (i : Int)) (nmI (nm l l.length i)) := by
  unfold spec_l22Mark.f
  have e1 : wrap64 ((i : Int) + 1) = ((i + 1 : Nat) : Int) := by rw [wrap_id (by omega) (by omega)]; omega
  rw [e1]
  exact specMark_loop l hl i hi _ (i + 1) rfl (by omega) (by omega) (nm_self (Nat.le_refl _))
theorem ours_eq (b : Bt) : spec_l22Ours.f b.f0 b.f1 b.f2 b.f3 b.f4 b.f5 = some (decide (b.f2 ≠ 255) && !b.f1) := by
  unfold spec_l22Ours.f
  by_cases h : b.f2 = 255
  · rw [if_pos h]; simp [h]
  · rw [if_neg h]; simp [h]
theorem nmI_neg (o : Option Nat) : nmI o < 0 ↔ o = none := by
  cases o with
  | none => simp [nmI]
  | some j => simp only [nmI]; constructor
              · intro h; omega
              · intro h; cases h
theorem opens_iff (l : List Bt) (k i : Nat) : opens l k i = true ↔ pr l i ≠ 255 ∧ mk l i = false ∧ nm l k i = none := by
  unfold opens
  simp
theorem wAt_zero (l : List Bt) (k i : Nat) : wAt l k i = 0 ↔ opens l k i = true := by
  rw [opens_iff]
  unfold wAt
  by_cases h : pr l i = 255
  · simp [h]
  · by_cases h2 : mk l i = true
    · simp [h, h2]
    · cases h3 : nm l k i with
      | none => simp [h, h2]
      | some j => by_cases h4 : tellsP (rb l (j : Int)) = true <;> simp [h, h2, h4]
def tailP (l : List Bt) : Int := if l.length = 0 then 0 else lOff (rb l ((l.length : Int) - 1)) + 1
def EndP (l : List Bt) (r : Int) : Prop := (∃ i, i < l.length ∧ opens l l.length i = true ∧ (∀ j, j < i → opens l l.length j = false) ∧ r = fOff (rb l (i : Int))) ∨ ((∀ j, j < l.length → opens l l.length j = false) ∧ r = tailP l)
theorem EndP_unique {l : List Bt} {r r' : Int} (h : EndP l r) (h' : EndP l r') : r = r' := by
  rcases h with ⟨i, h1, h2, h3, h4⟩ | ⟨h1, h2⟩
  · rcases h' with ⟨i', h1', h2', h3', h4'⟩ | ⟨h1', h2'⟩
    · have : i = i' := by
        rcases Nat.lt_trichotomy i i' with h | h | h
        · have := h3' i h; rw [h2] at this; cases this
        · exact h
        · have := h3 i' h; rw [h2'] at this; cases this
      rw [h4, h4', this]
    · have := h1' i h1; rw [h2] at this; cases this
  · rcases h' with ⟨i', h1', h2', h3', h4'⟩ | ⟨h1', h2'⟩
    · have := h1 i' h1'; rw [h2'] at this; cases this
    · rw [h2, h2']
theorem EndP_pos {l : List Bt} (h : VL l) {r : Int} (he : EndP l r) : 0 ≤ r := by
  rcases he with ⟨i, h1, _, _, rfl⟩ | ⟨_, rfl⟩
  · exact (fOff_range (VL_at h i h1)).1
  · unfold tailP
    split
    · omega
    · have := lOff_range (VL_at h (l.length - 1) (by omega))
      rw [show ((l.length - 1 : Nat) : Int) = (l.length : Int) - 1 by omega] at this
      omega
theorem VL_last {l : List Bt} (h : VL l) (h0 : l.length ≠ 0) : vB (rb l ((l.length : Int) - 1)) := by
  have := VL_at h (l.length - 1) (by omega)
  rwa [show ((l.length - 1 : Nat) : Int) = (l.length : Int) - 1 by omega] at this
def StP (l : List Bt) (r : Int) : Prop := (VL l ∧ EndP l r) ∨ (¬ VL l ∧ r = -1)
theorem StP_unique {l : List Bt} {r r' : Int} (h : StP l r) (h' : StP l r') : r = r' := by
  rcases h with ⟨h1, h2⟩ | ⟨h1, h2⟩
  · rcases h' with ⟨_, h2'⟩ | ⟨h1', _⟩
    · exact EndP_unique h2 h2'
    · exact absurd h1 h1'
  · rcases h' with ⟨h1', _⟩ | ⟨_, h2'⟩
    · exact absurd h1' h1
    · rw [h2, h2']
theorem vl_true {l : List Bt} (h : VL l) : vl l = true := (vl_iff l).2 h
theorem vl_false {l : List Bt} (h : ¬ VL l) : vl l = false := by rw [← Bool.not_eq_true, vl_iff]; exact h
theorem implEnd (l : List Bt) (hl : smallBs l) (h : VL l) : Ev (fun k => impl_ReadEnd.f k l) (tailP l) := by
  have hs := hl.1
  unfold impl_ReadEnd.f tailP
  refine Ev.bind (implLog l hl) ?_
  rw [vl_true h]
  simp only [if_true]
  by_cases h0 : l.length = 0
  · rw [if_pos h0]
    simp only [if_pos (show (l.length : Int) = 0 by omega)]
    exact ev_some _
  · have e : wrap64 ((l.length : Int) - 1) = (l.length : Int) - 1 := wrap_id (by omega) (by omega)
    have hv := VL_last h h0
    have hr := lOff_range hv
    have e2 : wrap64 (lOff (rb l ((l.length : Int) - 1)) + 1) = lOff (rb l ((l.length : Int) - 1)) + 1 := wrap_id (by omega) (by omega)
    have f := last_eq hv
    rw [if_neg h0]
    simp only [if_neg (show ¬ (l.length : Int) = 0 by omega), e, if_pos (show 0 ≤ (l.length : Int) - 1 by omega), if_pos (show (l.length : Int) - 1 < (l.length : Int) by omega)]
    rw [show (rd_T27 l ((l.length : Int) - 1)) = rb l ((l.length : Int) - 1) from rfl, f]
    simp only [bsome, e2]
    exact ev_some _
theorem implStable_loop (l : List Bt) (hl : smallBs l) (h : VL l) : ∀ (d i : Nat), l.length - i = d → i ≤ l.length → (∀ j, j < i → opens l l.length j = false) → Evs (fun k => impl_StableEnd.l0 k l (fatesTo l l.length).ws (l.length : Int) (i : Int)) (EndP l) := by
  have hs := hl.1
  have hw := (fates_len l).1
  intro d
  induction d with
  | zero =>
    intro i hd hi ho
    refine Evs.succ ?_
    simp only [impl_StableEnd.l0, if_neg (show ¬ (i : Int) < (l.length : Int) by omega)]
    refine Evs.bind (Evs.of (implEnd l hl h) rfl) ?_
    rintro _ rfl
    exact Evs.done (.inr ⟨fun j hj => ho j (by omega), rfl⟩)
  | succ d ih =>
    intro i hd hi ho
    have hlt : i < l.length := by omega
    have e1 : wrap64 ((i : Int) + 1) = ((i + 1 : Nat) : Int) := by rw [wrap_id (by omega) (by omega)]; omega
    refine Evs.succ ?_
    simp only [impl_StableEnd.l0, if_pos (show (i : Int) < (l.length : Int) by omega), if_pos (show (0 : Int) ≤ (i : Int) by omega), hw, e1, fates_w l i hlt]
    by_cases hz : opens l l.length i = true
    · simp only [if_pos ((wAt_zero l l.length i).2 hz)]
      have f := first_eq (VL_at h i hlt)
      rw [show (rd_T27 l (i : Int)) = rb l (i : Int) from rfl, f]
      simp only [bsome]
      exact Evs.done (.inl ⟨i, hlt, hz, ho, rfl⟩)
    · simp only [if_neg (fun h2 => hz ((wAt_zero l l.length i).1 h2))]
      refine ih (i + 1) (by omega) (by omega) (fun j hj => ?_)
      by_cases he : j = i
      · subst he; simpa using hz
      · exact ho j (by omega)
theorem implStable (l : List Bt) (hl : smallBs l) : Evs (fun k => impl_StableEnd.f k l) (StP l) := by
  unfold impl_StableEnd.f
  refine Evs.bind (Evs.of (implLog l hl) rfl) ?_
  rintro _ rfl
  by_cases h : VL l
  · rw [vl_true h]
    simp only [if_true, fates_fit h, bsome]
    have := implStable_loop l hl h l.length 0 (by omega) (by omega) (fun j hj => by omega)
    have h2 := (fates_len l).1
    simp only [h2]
    exact this.mono (fun r hr => Or.inl ⟨h, hr⟩)
  · rw [vl_false h]
    simp only [Bool.false_eq_true, if_false]
    exact Evs.done (.inr ⟨h, rfl⟩)
theorem specEnd_loop (l : List Bt) (hl : smallBs l) (h : VL l) : ∀ (d i : Nat), l.length - i = d → i ≤ l.length → (∀ j, j < i → opens l l.length j = false) → Evs (fun k => spec_l22End.l0 k l (i : Int)) (EndP l) := by
  have hs := hl.1
  intro d
  induction d with
  | zero =>
    intro i hd hi ho
    refine Evs.succ ?_
    simp only [spec_l22End.l0, if_neg (show ¬ (i : Int) < (l.length : Int) by omega)]
    by_cases h0 : l.length = 0
    · simp only [if_pos (show (l.length : Int) = 0 by omega)]
      exact Evs.done (.inr ⟨fun j hj => by omega, by unfold tailP; rw [if_pos h0]⟩)
    · have e : wrap64 ((l.length : Int) - 1) = (l.length : Int) - 1 := wrap_id (by omega) (by omega)
      have hv := VL_last h h0
      have hr := lOff_range hv
      have e2 : wrap64 (lOff (rb l ((l.length : Int) - 1)) + 1) = lOff (rb l ((l.length : Int) - 1)) + 1 := wrap_id (by omega) (by omega)
      have f := lastS_eq hv
      simp only [if_neg (show ¬ (l.length : Int) = 0 by omega), e, if_pos (show 0 ≤ (l.length : Int) - 1 by omega), if_pos (show (l.length : Int) - 1 < (l.length : Int) by omega)]
      rw [show (rd_T27 l ((l.length : Int) - 1)) = rb l ((l.length : Int) - 1) from rfl, f]
      simp only [bsome, e2]
      exact Evs.done (.inr ⟨fun j hj => ho j (by omega), by unfold tailP; rw [if_neg h0]⟩)
  | succ d ih =>
    intro i hd hi ho
    have hlt : i < l.length := by omega
    have e1 : wrap64 ((i : Int) + 1) = ((i + 1 : Nat) : Int) := by rw [wrap_id (by omega) (by omega)]; omega
    have next : opens l l.length i = false → Evs (fun k => spec_l22End.l0 k l ((i + 1 : Nat) : Int)) (EndP l) := fun hz => ih (i + 1) (by omega) (by omega) (fun j hj => by
      by_cases he : j = i
      · subst he; exact hz
      · exact ho j (by omega))
    refine Evs.succ ?_
    have f := ours_eq (rb l (i : Int))
    simp only [spec_l22End.l0, if_pos (show (i : Int) < (l.length : Int) by omega), if_pos (show (0 : Int) ≤ (i : Int) by omega), e1]
    rw [show (rd_T27 l (i : Int)) = rb l (i : Int) from rfl, f]
    simp only [bsome]
    by_cases hu : (decide ((rb l (i : Int)).f2 ≠ 255) && !(rb l (i : Int)).f1) = true
    · simp only [if_pos hu]
      refine Evs.bind (Evs.of (specMarkAt l hs i hlt) rfl) ?_
      rintro _ rfl
      have hu2 : pr l i ≠ 255 ∧ mk l i = false := by simpa using hu
      cases hn : nm l l.length i with
      | none =>
        have hpos := (vB_pos (VL_at h i hlt)).1
        simp only [if_pos ((nmI_neg none).2 rfl), if_pos (show 0 < ((rb l (i : Int)).f5.length : Int) by omega)]
        exact Evs.done (.inl ⟨i, hlt, (opens_iff _ _ _).2 ⟨hu2.1, hu2.2, hn⟩, ho, rfl⟩)
      | some j =>
        simp only [if_neg (show ¬ nmI (some j) < 0 from fun h2 => by have := (nmI_neg _).1 h2; cases this)]
        exact next (by rw [← Bool.not_eq_true, opens_iff, hn]; exact fun h2 => by cases h2.2.2)
    · simp only [if_neg hu]
      exact next (by rw [← Bool.not_eq_true, opens_iff]; exact fun h2 => hu (by simp [h2.1, h2.2.1]))
theorem specStable (l : List Bt) (hl : smallBs l) : Evs (fun k => spec_StableEnd.f k l) (StP l) := by
  unfold spec_StableEnd.f
  refine Evs.bind (Evs.of (specLog l hl) rfl) ?_
  rintro _ rfl
  by_cases h : VL l
  · rw [vl_true h]
    simp only [if_true]
    unfold spec_l22End.f
    refine Evs.bind (specEnd_loop l hl h l.length 0 (by omega) (by omega) (fun j hj => by omega)) ?_
    intro r hr
    exact Evs.done (.inl ⟨h, hr⟩)
  · rw [vl_false h]
    simp only [Bool.false_eq_true, if_false]
    exact Evs.done (.inr ⟨h, rfl⟩)
end Go.Proofs.Yticpnjhkdfdkkaa.Q
namespace Go.Proofs.Yticpnjhkdfdkkaa.Q
open Go.RowKit Go.Proofs.Yticpnjhkdfdkkaa.T Go.Proofs.YticpnjhkdfdkkaaW.PrintWords Go.Proofs.YticpnjhkdfdkkaaW.PrintLast
set_option linter.unusedVariables false
set_option linter.unusedSimpArgs false
theorem clone_eq (l : List Int) (h : l.length ≤ 1048576) : slices_Clone_int_int.f l = some l := by
  unfold slices_Clone_int_int.f
  rw [if_pos (by omega)]
def okc (r : Rc) : Prop := r.f3.length ≤ 1048576 ∧ r.f5.length ≤ 1048576
theorem copyRec (r : Rc) (h : okc r) : impl_Record_copyOf.f r.f0 r.f1 r.f2 r.f3 r.f4 r.f5 = some (r.f0, r.f1, r.f2, r.f3, r.f4, r.f5) := by
  unfold impl_Record_copyOf.f
  rw [clone_eq _ h.1, bsome, clone_eq _ h.2, bsome]
theorem take_snoc {α : Type} (l : List α) (i : Nat) (h : i < l.length) : l.take i ++ [l[i]] = l.take (i + 1) := by
  rw [List.take_add_one, List.getElem?_eq_getElem h]
  rfl
theorem copyRecs_loop (l : List Rc) (hl : l.length ≤ 1048576) (hx : ∀ r ∈ l, okc r) : ∀ (d i : Nat), l.length - i = d → i ≤ l.length → Ev (fun k => impl_copyRecords.l0 k (l.take i) l (l.length : Int) (i : Int)) l := by
  intro d
  induction d with
  | zero =>
    intro i hd hi
    refine ev_succ ?_
    simp only [impl_copyRecords.l0, if_neg (show ¬ (i : Int) < (l.length : Int) by omega)]
    rw [List.take_of_length_le (by omega)]
    exact ev_some _
  | succ d ih =>
    intro i hd hi
    have hlt : i < l.length := by omega
    have e1 : wrap64 ((i : Int) + 1) = ((i + 1 : Nat) : Int) := by rw [wrap_id (by omega) (by omega)]; omega
    have hr : rd_T34 l (i : Int) = l[i] := rr_nat l i hlt
    have next := ih (i + 1) (by omega) (by omega)
    refine ev_succ ?_
    simp only [impl_copyRecords.l0, if_pos (show (i : Int) < (l.length : Int) by omega), if_pos (show (0 : Int) ≤ (i : Int) by omega), e1, hr, copyRec l[i] (hx _ (List.getElem_mem hlt)), bsome, if_pos (show (l.take i).length < 1759218604441 by rw [List.length_take]; omega)]
    rw [← take_snoc l i hlt] at next
    exact next
theorem copyRecs (l : List Rc) (hl : l.length ≤ 1048576) (hx : ∀ r ∈ l, okc r) : Ev (fun k => impl_copyRecords.f k l) l := by
  unfold impl_copyRecords.f
  simp only [if_pos (show (0 : Int) ≤ (l.length : Int) by omega), if_pos (show ((l.length : Int)).toNat ≤ 3518437208883 by omega)]
  exact copyRecs_loop l hl hx l.length 0 (by omega) (by omega)
theorem pv_len {has : Bool} {l : List Int} (h : pv has l = true) : l.length ≤ 12 := by
  unfold pv at h
  split at h
  · simp only [Bool.and_eq_true, decide_eq_true_eq] at h
    exact h.1
  · simp only [decide_eq_true_eq] at h
    omega
theorem rv_okc {r : Rc} (h : rv r = true) : okc r := by
  unfold rv at h
  simp only [Bool.and_eq_true] at h
  have h1 := pv_len h.2.1
  have h2 := pv_len h.2.2
  exact ⟨by omega, by omega⟩
theorem vB_okc {b : Bt} (h : vB b) : ∀ r ∈ b.f5, okc r := by
  intro r hr
  obtain ⟨j, hj, rfl⟩ := List.getElem_of_mem hr
  have := (h.2.2.2 j (Nat.zero_le _) hj).1
  rw [rr_nat b.f5 j hj] at this
  exact rv_okc this
theorem copyBt (b : Bt) (h : vB b) : Ev (fun k => impl_Batch_copyOf.f k b.f0 b.f1 b.f2 b.f3 b.f4 b.f5) (b.f0, b.f1, b.f2, b.f3, b.f4, b.f5) := by
  have hp := (vB_pos h).2
  unfold impl_Batch_copyOf.f
  refine Ev.bind (copyRecs b.f5 (by omega) (vB_okc h)) ?_
  exact ev_some _
end Go.Proofs.Yticpnjhkdfdkkaa.Q
namespace Go.Proofs.Yticpnjhkdfdkkaa.Q
open Go.RowKit Go.Proofs.Yticpnjhkdfdkkaa.T Go.Proofs.YticpnjhkdfdkkaaW.PrintWords Go.Proofs.YticpnjhkdfdkkaaW.PrintLast
set_option linter.unusedVariables false
set_option linter.unusedSimpArgs false
theorem copyBts_loop (l : List Bt) (hl : l.length ≤ 1048576) (hx : ∀ b ∈ l, vB b) : ∀ (d i : Nat), l.length - i = d → i ≤ l.length → Ev (fun k => impl_copyBatches.l0 k (l.take i) l (l.length : Int) (i : Int)) l := by
  intro d
  induction d with
  | zero =>
    intro i hd hi
    refine ev_succ ?_
    simp only [impl_copyBatches.l0, if_neg (show ¬ (i : Int) < (l.length : Int) by omega)]
    rw [List.take_of_length_le (by omega)]
    exact ev_some _
  | succ d ih =>
    intro i hd hi
    have hlt : i < l.length := by omega
    have e1 : wrap64 ((i : Int) + 1) = ((i + 1 : Nat) : Int) := by rw [wrap_id (by omega) (by omega)]; omega
    have hr : rd_T27 l (i : Int) = l[i] := rb_nat l i hlt
    have next := ih (i + 1) (by omega) (by omega)
    refine ev_succ ?_
    simp only [impl_copyBatches.l0, if_pos (show (i : Int) < (l.length : Int) by omega), if_pos (show (0 : Int) ≤ (i : Int) by omega), e1, hr]
    refine Ev.bind (copyBt l[i] (hx _ (List.getElem_mem hlt))) ?_
    simp only [if_pos (show (l.take i).length < 2513169434916 by rw [List.length_take]; omega)]
    rw [← take_snoc l i hlt] at next
    exact next
theorem copyBts (l : List Bt) (hl : l.length ≤ 1048576) (hx : ∀ b ∈ l, vB b) : Ev (fun k => impl_copyBatches.f k l) l := by
  unfold impl_copyBatches.f
  simp only [if_pos (show (0 : Int) ≤ (l.length : Int) by omega), if_pos (show ((l.length : Int)).toNat ≤ 5026338869833 by omega)]
  exact copyBts_loop l hl hx l.length 0 (by omega) (by omega)
theorem VL_mem {l : List Bt} (h : VL l) : ∀ b ∈ l, vB b := by
  intro b hb
  obtain ⟨j, hj, rfl⟩ := List.getElem_of_mem hb
  have := VL_at h j hj
  rwa [rb_nat l j hj] at this
def renR (n : Int) (l : List Rc) (i : Nat) : List Rc := l.mapIdx fun j r => if j < i then ⟨n + (j : Int), r.f1, r.f2, r.f3, r.f4, r.f5⟩ else r
theorem renR_len (n : Int) (l : List Rc) (i : Nat) : (renR n l i).length = l.length := by simp [renR]
theorem renR_zero (n : Int) (l : List Rc) : renR n l 0 = l := by
  apply List.ext_getElem
  · simp [renR]
  · intro j h1 h2
    simp [renR]
theorem renR_at (n : Int) (l : List Rc) (i : Nat) (h : i < l.length) : rr (renR n l i) (i : Int) = l[i] := by
  rw [rr_nat _ i (by rw [renR_len]; exact h)]
  simp [renR]
theorem renR_set (n : Int) (l : List Rc) (i : Nat) (h : i < l.length) : (renR n l i).set i ⟨n + (i : Int), l[i].f1, l[i].f2, l[i].f3, l[i].f4, l[i].f5⟩ = renR n l (i + 1) := by
  apply List.ext_getElem
  · simp [renR]
  · intro j h1 h2
    rw [List.getElem_set]
    by_cases he : i = j
    · subst he
      simp [renR]
    · rw [if_neg he]
      simp only [renR, List.getElem_mapIdx]
      by_cases hj : j < i
      · rw [if_pos hj, if_pos (by omega)]
      · rw [if_neg hj, if_neg (by omega)]
theorem renR_smallR (n : Int) (l : List Rc) (i : Nat) (h : smallRs l) : smallRs (renR n l i) := by
  refine ⟨by rw [renR_len]; exact h.1, fun r hr => ?_⟩
  obtain ⟨j, hj, rfl⟩ := List.getElem_of_mem hr
  have hj' : j < l.length := by rw [renR_len] at hj; exact hj
  have := h.2 _ (List.getElem_mem hj')
  simp only [renR, List.getElem_mapIdx]
  split
  · exact this
  · exact this
def renB (n : Int) (b : Bt) : Bt := ⟨b.f0, b.f1, b.f2, b.f3, b.f4, renR n b.f5 b.f5.length⟩
theorem smallBs_snoc {l : List Bt} (hl : smallBs l) (h8 : l.length ≤ 8) {b : Bt} (hb : smallRs b.f5) : smallBs (l ++ [b]) := by
  refine ⟨by rw [List.length_append, List.length_singleton]; omega, fun x hx => ?_⟩
  rcases List.mem_append.1 hx with h | h
  · exact hl.2 x h
  · rw [List.mem_singleton.1 h]; exact hb
def AppP (l : List Bt) (b : Bt) (r : List Bt × Bool) : Prop := r.2 = true → VL l ∧ vB b ∧ r.1 = l ++ [renB (tailP l) b] ∧ VL (l ++ [renB (tailP l) b])
theorem append_loop (l : List Bt) (hl : smallBs l) (h : VL l) (b : Bt) (hb : smallRs b.f5) (hv : vB b) : ∀ (d i : Nat), b.f5.length - i = d → i ≤ b.f5.length → Evs (fun k => impl_LogAppend.l0 k l (tailP l) (b.f5.length : Int) (i : Int) b.f0 b.f1 b.f2 b.f3 b.f4 (renR (tailP l) b.f5 i)) (AppP l b) := by
  have hp := (vB_pos hv).2
  have ht : 0 ≤ tailP l ∧ tailP l ≤ 100000 := by
    unfold tailP
    split
    · omega
    · have := lOff_range (VL_last h (by assumption))
      omega
  intro d
  induction d with
  | zero =>
    intro i hd hi
    have hie : i = b.f5.length := by omega
    subst hie
    refine Evs.succ ?_
    simp only [impl_LogAppend.l0, if_neg (show ¬ (b.f5.length : Int) < (b.f5.length : Int) by omega)]
    have h8 := h.1
    refine Evs.bind (Evs.of (copyBts l (by omega) (VL_mem h)) rfl) ?_
    rintro _ rfl
    simp only [bsome, List.length_singleton, if_pos (show l.length + 1 < 2513169434916 by omega)]
    refine Evs.bind (Evs.of (implLog (l ++ [renB (tailP l) b]) (smallBs_snoc hl h8 (renR_smallR _ _ _ hb))) rfl) ?_
    rintro _ rfl
    by_cases hx : VL (l ++ [renB (tailP l) b])
    · rw [vl_true hx]
      simp only [if_true]
      exact Evs.done (fun _ => ⟨h, hv, rfl, hx⟩)
    · rw [vl_false hx]
      simp only [Bool.false_eq_true, if_false]
      exact Evs.done (fun e => by cases e)
  | succ d ih =>
    intro i hd hi
    have hlt : i < b.f5.length := by omega
    have e1 : wrap64 ((i : Int) + 1) = ((i + 1 : Nat) : Int) := by rw [wrap_id (by omega) (by omega)]; omega
    have e2 : wrap64 (tailP l + (i : Int)) = tailP l + (i : Int) := wrap_id (by omega) (by omega)
    have hr : rd_T34 (renR (tailP l) b.f5 i) (i : Int) = b.f5[i] := renR_at _ _ _ hlt
    have next := ih (i + 1) (by omega) (by omega)
    refine Evs.succ ?_
    simp only [impl_LogAppend.l0, if_pos (show (i : Int) < (b.f5.length : Int) by omega), if_pos (show (0 : Int) ≤ (i : Int) by omega), e1, e2, hr, renR_len, Int.toNat_natCast]
    rw [← renR_set _ _ _ hlt] at next
    exact next
theorem implAppend (l : List Bt) (hl : smallBs l) (b : Bt) (hb : smallRs b.f5) : Evs (fun k => impl_LogAppend.f k l b.f0 b.f1 b.f2 b.f3 b.f4 b.f5) (AppP l b) := by
  unfold impl_LogAppend.f
  refine Evs.bind (Evs.of (implLog l hl) rfl) ?_
  rintro _ rfl
  by_cases h : VL l
  · rw [vl_true h]
    simp only [if_true]
    refine Evs.bind (Evs.of (implB b.f0 b.f1 b.f2 b.f3 b.f4 b.f5 hb) rfl) ?_
    rintro _ rfl
    refine Evs.succ ?_
    by_cases hv : vB b
    · rw [(vb_vB b).2 hv]
      simp only [impl_LogAppend.j0, Bool.not_true, Bool.false_eq_true, if_false]
      refine Evs.bind (Evs.of (implEnd l hl h) rfl) ?_
      rintro _ rfl
      refine Evs.bind (Evs.of (copyBt b hv) rfl) ?_
      rintro _ rfl
      have := append_loop l hl h b hb hv b.f5.length 0 (by omega) (by omega)
      rw [renR_zero] at this
      exact this
    · rw [show vb b.f1 b.f2 b.f3 b.f4 b.f5 = false by rw [← Bool.not_eq_true, vb_vB]; exact hv]
      simp only [impl_LogAppend.j0, Bool.not_false, if_true]
      exact Evs.done (fun e => by cases e)
  · rw [vl_false h]
    simp only [Bool.false_eq_true, if_false]
    refine Evs.succ ?_
    simp only [impl_LogAppend.j0, if_true]
    exact Evs.done (fun e => by cases e)
theorem rb_app_lt (l : List Bt) (b : Bt) (j : Nat) (h : j < l.length) : rb (l ++ [b]) (j : Int) = rb l (j : Int) := by
  rw [rb_nat _ j (by rw [List.length_append]; omega), rb_nat l j h, List.getElem_append_left h]
theorem rb_app_eq (l : List Bt) (b : Bt) : rb (l ++ [b]) (l.length : Int) = b := by
  rw [rb_nat _ l.length (by rw [List.length_append, List.length_singleton]; omega), List.getElem_append_right (Nat.le_refl _)]
  simp
theorem nm_app (l : List Bt) (b : Bt) (i : Nat) (hi : i < l.length) : ∀ k, k ≤ l.length → nm (l ++ [b]) k i = nm l k i
  | 0, _ => rfl
  | k + 1, h => by
    simp only [nm]
    rw [nm_app l b i hi k (by omega)]
    simp only [mk, pr, rb_app_lt l b k (by omega), rb_app_lt l b i hi]
theorem opens_app (l : List Bt) (b : Bt) (i : Nat) (hi : i < l.length) : opens (l ++ [b]) (l ++ [b]).length i = true ↔ opens l l.length i = true ∧ ¬ (b.f1 = true ∧ b.f2 = pr l i) := by
  rw [List.length_append, List.length_singleton, opens_iff, opens_iff]
  have e1 : pr (l ++ [b]) i = pr l i := by simp only [pr, rb_app_lt l b i hi]
  have e2 : mk (l ++ [b]) i = mk l i := by simp only [mk, rb_app_lt l b i hi]
  have e3 : mk (l ++ [b]) l.length = b.f1 := by simp only [mk, rb_app_eq]
  have e4 : pr (l ++ [b]) l.length = b.f2 := by simp only [pr, rb_app_eq]
  rw [e1, e2]
  simp only [nm]
  rw [nm_app l b i hi l.length (Nat.le_refl _), e1, e3, e4]
  cases hn : nm l l.length i with
  | some j => simp
  | none => simp [hi, and_assoc]
theorem opens_last (l : List Bt) (b : Bt) (h : b.f2 = 255 ∨ b.f1 = true) : opens (l ++ [b]) (l ++ [b]).length l.length = false := by
  rw [← Bool.not_eq_true, opens_iff]
  rintro ⟨h1, h2, _⟩
  simp only [pr, mk, rb_app_eq] at h1 h2
  rcases h with h | h
  · exact h1 h
  · rw [h] at h2; cases h2
theorem fOff_ren (n : Int) (b : Bt) (h : 1 ≤ b.f5.length) : fOff (renB n b) = n := by
  show (rr (renR n b.f5 b.f5.length) ((0 : Nat) : Int)).f0 = n
  rw [rr_nat _ 0 (by rw [renR_len]; omega)]
  simp only [renR, List.getElem_mapIdx, if_pos (show 0 < b.f5.length by omega)]
  omega
theorem tail_app (l : List Bt) (b : Bt) : tailP (l ++ [b]) = lOff b + 1 := by
  unfold tailP
  rw [List.length_append, List.length_singleton, if_neg (by omega), show ((l.length + 1 : Nat) : Int) - 1 = (l.length : Int) by omega, rb_app_eq]
end Go.Proofs.Yticpnjhkdfdkkaa.Q
namespace Go.Proofs.Yticpnjhkdfdkkaa.Pure
open Go.RowKit Go.Proofs.Yticpnjhkdfdkkaa.T Go.Proofs.YticpnjhkdfdkkaaW.PrintWords Go.Proofs.YticpnjhkdfdkkaaW.PrintLast Go.Proofs.Yticpnjhkdfdkkaa.Q
set_option linter.unusedVariables false
set_option linter.unusedSimpArgs false
theorem more_le {l : List Bt} {b : Bt} (hx : VL (l ++ [b])) (hp : b.f2 = 255) (ht : fOff b = tailP l) {r r' : Int} (h : EndP l r) (h' : EndP (l ++ [b]) r') : r ≤ r' := by
  have hv := VL_at hx l.length (by rw [List.length_append, List.length_singleton]; omega)
  rw [rb_app_eq] at hv
  have hno : ¬ (b.f1 = true) := fun e => by
    have h1 : (if b.f2 = 255 then b.f3 = 0 ∧ b.f4 = 0 ∧ b.f1 = false else _) := hv.1
    rw [if_pos hp] at h1
    rw [h1.2.2] at e
    cases e
  have key : ∀ i, i < l.length → opens (l ++ [b]) (l ++ [b]).length i = opens l l.length i := fun i hi => by
    rw [Bool.eq_iff_iff, opens_app l b i hi]
    simp [hno]
  rcases h with ⟨i, hi, ho, hf, rfl⟩ | ⟨ha, rfl⟩
  · have : EndP (l ++ [b]) (fOff (rb l (i : Int))) := .inl ⟨i, by rw [List.length_append]; omega, by rw [key i hi]; exact ho, fun j hj => by rw [key j (by omega)]; exact hf j hj, by rw [rb_app_lt l b i hi]⟩
    rw [EndP_unique h' this]
    exact Int.le_refl _
  · have : EndP (l ++ [b]) (tailP (l ++ [b])) := .inr ⟨fun j hj => by
      rw [List.length_append, List.length_singleton] at hj
      by_cases he : j = l.length
      · rw [he]; exact opens_last l b (.inl hp)
      · rw [key j (by omega)]; exact ha j (by omega), rfl⟩
    rw [EndP_unique h' this, tail_app]
    have := fOff_le hv
    omega
abbrev newB : Bt := ⟨false, false, 255, 0, 0, [⟨0, 0, false, [], true, [1]⟩]⟩
theorem newB_small : smallRs newB.f5 := by
  refine ⟨by simp, fun r hr => ?_⟩
  rw [List.mem_singleton.1 hr]
  exact ⟨by simp, by simp⟩
theorem FnStableMore : laws_FnStableMore.Pure := by
  intro l0 _ _ hb0
  refine Ev.rounds ?_
  have hb := bytes_of hb0
  unfold laws_FnStableMore.f
  by_cases h : (l0.length : Int) > 1048576
  · simp only [if_pos h]
    exact ev_some _
  · simp only [if_neg h]
    obtain ⟨l, hd, hdr⟩ := drawStable hb
    have hs := drawnBs_small hdr
    refine Ev.bind hd ?_
    obtain ⟨r, h1, p1⟩ := implStable l hs
    obtain ⟨r', h2, p2⟩ := specStable l hs
    obtain rfl := StP_unique p1 p2
    refine Ev.bind h1 ?_
    refine Ev.bind h2 ?_
    simp only [if_true]
    refine ev_succ ?_
    rcases p1 with ⟨hv, he⟩ | ⟨hv, rfl⟩
    · have hp := EndP_pos hv he
      simp only [laws_FnStableMore.j0, decide_eq_false (show ¬ r < 0 by omega), Bool.false_eq_true, if_false]
      obtain ⟨⟨x, q⟩, hr2, hp2⟩ := implAppend l hs newB newB_small
      refine Ev.bind hr2 ?_
      cases q with
      | false =>
        simp only [Bool.false_eq_true, if_false]
        exact ev_some _
      | true =>
        obtain ⟨_, hnv, hx, hxv⟩ := hp2 rfl
        simp only at hx
        subst hx
        simp only [if_true]
        obtain ⟨r2, h3, p3⟩ := implStable (l ++ [renB (tailP l) newB]) (smallBs_snoc hs hv.1 (renR_smallR _ _ _ newB_small))
        refine Ev.bind h3 ?_
        rcases p3 with ⟨_, he2⟩ | ⟨hn, _⟩
        · rw [decide_eq_true (show r2 ≥ r from more_le hxv rfl (fOff_ren _ _ (by simp)) he he2)]
          exact ev_some _
        · exact absurd hxv hn
    · simp only [laws_FnStableMore.j0, decide_eq_true (show (-1 : Int) < 0 by omega), if_true, beq_self_eq_true]
      exact ev_some _
end Go.Proofs.Yticpnjhkdfdkkaa.Pure
namespace Go.Proofs.Yticpnjhkdfdkkaa.fnStableMore
open Go.ChangeShapes Go.WideShapes Go.ChangeAt Go.RowKit
open Go.ChangeMaps (open_string shut_string)
set_option linter.unusedVariables false
theorem own : ownKnob Try.prog.godebug = none := by kernel_rfl
theorem laidOut : laidOutB Try.prog = true := by kernel_rfl
def IsRow (k : IntKind) (w : World) (a : Option Addr) (len cap : Nat) (zs : List Int) : Prop :=
  (a = none ∧ len = 0 ∧ cap = 0 ∧ zs = []) ∨
  ∃ x, a = some x ∧ len ≤ cap ∧ cap ≤ maxLen ∧ zs.length = cap ∧ (∀ i, i < zs.length → w.cell? (x.add i) = some (.int k (zs.getD i 0))) ∧ ∀ n ∈ zs, (Lit.int k n).wf = true
set_option maxRecDepth 100000 in
theorem lifted (os : Os) (started : os.Started) (H : Type) (enc : TypeId × Value → H) :
    ReturnsInHanded {} Try.checked os 10 .any (Rows.fnStableMoreSpec.pre6 enc Try.prog Try.f10 Rows.fnStableMoreRow.domain false) (Rows.fnStableMoreSpec.post enc Try.prog Try.f10 false true false false) := by
  refine returnsInHanded_of_change_sized (C := Try.checked) own started (by kernel_rfl) Try.func10
    (ChangeSpec.witness6 (enc := enc) (C := Try.checked) false ⟨#[], #[.slice none 0 0], []⟩ 8 (by kernel_rfl) (by kernel_rfl) (by kernel_rfl) (by kernel_rfl)) ?_
  intro W base args ds gs before hval0 hW hcnd hsz0 _
  have hsz : (DataW.weightsEach Try.prog (Try.f10.params.toList ++ Rows.fnStableMoreSpec.plain.varTypes Try.prog) (ds ++ gs)).all (· ≤ reachBytes) = true := hsz0
  have hval : ∀ (j : Nat) t v, Try.f10.params[j]? = some t → args[j]? = some v → Value.okWide Try.prog W .any base t v := hval0
  have hW' := hW
  obtain ⟨p, q, hA0, hV, rfl, hfz, hnd⟩ := hW
  have hA : DataW.TrodAll enc Try.prog W 0 (fun _ => true) true Try.f10.params.toList args.toList ds p := hA0
  rw [Try.params10] at hA hval hsz
  obtain ⟨v0, vs0, d0, ds0, p0, q0, hargs, rfl, rfl, h0, r0⟩ := trodAll_cons hA
  obtain ⟨rfl, rfl, rfl⟩ := trodAll_nil r0
  obtain rfl : args = #[v0] := by cases args; simp_all
  obtain ⟨rfl, rfl⟩ := trodVars_none hV
  obtain ⟨a0, len0, cap0, rfl⟩ := okWide_slice Try.underlying22 (hval 0 22 v0 rfl rfl)
  have k0 := h0
  have lt0 : ∀ x ∈ p0, x.block < W.heap.size := by obtain ⟨m, hm⟩ := k0; exact DataW.trod_lt m _ _ _ hm
  obtain ⟨z0, w0⟩ : ∃ zs, IsRow .u8 W a0 len0 cap0 zs := by
    obtain ⟨fuel, hf⟩ := h0
    rcases open_ints Try.underlying22 Try.underlying5 (by kernel_rfl) hf with ⟨hcs, _⟩ | ⟨x, l, c, zs, hcs, _, hl, hm, hz, _, hcell, hwz⟩
    · simp [Value.cells] at hcs
      obtain ⟨rfl, rfl, rfl⟩ := hcs
      exact ⟨[], .inl ⟨rfl, rfl, rfl, rfl⟩⟩
    · simp [Value.cells] at hcs
      obtain ⟨rfl, rfl, rfl⟩ := hcs
      exact ⟨zs, .inr ⟨_, rfl, hl, hm, by simpa using hz, hcell, hwz⟩⟩
  have y0 : len0 * 1 ≤ 140737488351232 := Go.Proofs.YticpnjhkdfdkkaaW.PrintWords.sized_ints hsz (j := 0) (t := 22) rfl rfl Try.underlying22 Try.underlying5 (by kernel_rfl) (by kernel_rfl) h0
  clear hA0 hval0 hsz0 hsz
  refine (T.laws_FnStableMore.walk Pure.FnStableMore a0 len0 cap0 z0 W w0 y0).mono fun e W' ⟨he, bel⟩ => ?_
  subst he
  exact ⟨_, rfl, _, _, _, [], _, [], hW', trodAll_mk1 (shut_bool Try.underlying4 _), (trodAll_cons_mk (Below.trod laidOut (by kernel_rfl) (of_decide_eq_true (by kernel_rfl)) k0 bel lt0) trodAll_mk0), rfl, bel.frame _, fun h => by cases h⟩
theorem closed : joinedFacts Try.prog 10 Try.f10 Rows.fnStableMoreSpec Rows.fnStableMoreRow = true :=
  Head.closed_of _ _ _ _ _ (by kernel_rfl) (by kernel_rfl) (by kernel_rfl) (by kernel_rfl) (by kernel_rfl) (by kernel_rfl) (by kernel_rfl) (by kernel_rfl) (by kernel_rfl) (by kernel_rfl) (by kernel_rfl) (by kernel_rfl) (by kernel_rfl) (by kernel_rfl) (by kernel_rfl) (by kernel_rfl) (by kernel_rfl) (by kernel_rfl) (by kernel_rfl) (by kernel_rfl) (by kernel_rfl) (by kernel_rfl) (by kernel_rfl) (by kernel_rfl) (by kernel_rfl) Head.may_enter (by rw [Head.lifts_final]; kernel_rfl) (by rw [Head.make_is]; kernel_rfl) (by kernel_rfl) (by kernel_rfl) (by kernel_rfl) (by kernel_rfl)
theorem over : Rows.fnStableMoreRow.holds Try.pinned (OpenSpec.ofChange Rows.fnStableMoreSpec) :=
  OpenClaim.holds_of_wide 10 Try.f10 rfl rfl rfl rfl rfl rfl rfl ⟨rfl, rfl, rfl, rfl, rfl⟩ rfl rfl rfl rfl rfl (by kernel_rfl) Try.func10 closed
    (of_decide_eq_true (by kernel_rfl)) (by unfold Func.isWrapper; first | (rw [if_pos (by decide +kernel)]; kernel_rfl) | (rw [if_neg (by decide +kernel)]; exact ⟨rfl, rfl⟩))
    (fun os started H enc _ => lifted os started H enc)
theorem proved : Rows.FnStableMoreSaid := over
end Go.Proofs.Yticpnjhkdfdkkaa.fnStableMore
namespace Go.Proofs.Yticpnjhkdfdkkaa
theorem fnStableMore_holds : Rows.FnStableMoreSaid := fnStableMore.proved
end Go.Proofs.Yticpnjhkdfdkkaa
