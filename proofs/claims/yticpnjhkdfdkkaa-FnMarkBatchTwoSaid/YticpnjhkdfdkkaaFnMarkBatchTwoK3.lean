/- FnMarkBatchTwo, part 4 of 6: merged by wip/tools/pack2.py out of the texts that the row reaches; the pure statement is the session's own. -/
import Derived.RegionTactic
import Derived.Test.YticpnjhkdfdkkaaFnMarkBatchTwoK2
namespace Go.Proofs.Yticpnjhkdfdkkaa.T
open Go.RowKit Go.Proofs.YticpnjhkdfdkkaaW.PrintWords Go.Proofs.YticpnjhkdfdkkaaW.PrintLast Go.Proofs.YticpnjhkdfdkkaaW.PrintMore

set_option linter.unusedVariables false
set_option linter.unusedSimpArgs false
def markRow (a2 a3 : Int) (a4 : Bool) : List S34 := [⟨a2, a3, false, [], true, [if a4 = true then 1 else 0]⟩]
def spec_MarkBatch.f (k : Nat) (a0 : Int) (a1 : Int) (a2 : Int) (a3 : Int) (a4 : Bool) : Option (Bool × Bool × Int × Int × Int × (List (S34)) × Bool) := (spec_BatchValid.f k false true a0 a1 0 (markRow a2 a3 a4)).bind fun t => if t = true then some (false, true, a0, a1, 0, markRow a2 a3 a4, true) else some (false, false, 0, 0, 0, [], false)
set_option maxHeartbeats 8000000 in
set_option maxRecDepth 100000 in
theorem spec_MarkBatch.calls (k : Nat) (a0 : Int) (a1 : Int) (a2 : Int) (a3 : Int) (a4 : Bool) (r1 : Bool) (r2 : Bool) (r3 : Int) (r4 : Int) (r5 : Int) (r6 : List (S34)) (r7 : Bool) (w : World) (h : spec_MarkBatch.f k a0 a1 a2 a3 a4 = some (r1, r2, r3, r4, r5, r6, r7)) :
  Calls Try.prog 20 #[.int .i64 a0, .int .i64 a1, .int .i64 a2, .int .i64 a3, .bool a4] w fun e w' => ∃ v5_ : Value, e = .returned (.tuple #[.agg #[.bool r1, .bool r2, .int .i64 r3, .int .i64 r4, .int .i64 r5, v5_], .bool r7]) ∧ Kd.N k34 34 w' w.heap.size (fun k_ => (w.heap.size ≤ k_)) v5_ r6 ∧ Below w.heap.size w w' := by
 have HB := zzm (Below.refl w.heap.size w)
 unfold spec_MarkBatch.f markRow at h
 replace h := Option.bind_eq_some_iff.mp h
 obtain ⟨t, A70, h⟩ := h
 have A7 := zzm A70
 clear A70
 cases a4 with
 | true =>
  cases t with
  | true =>
   simp only [if_true, Bool.false_eq_true, if_false, Option.some.injEq, Prod.mk.injEq] at h A7
   obtain ⟨rfl, rfl, rfl, rfl, rfl, rfl, rfl⟩ := h
   go_enter Try.func20, Try.ntmps20
   go_upto_region 5 with (first | ((with_reducible refine gate_dst (N := 10) rfl ?_); refine box_event ?hg (N := 10) ?hd (cs := #[.bool false, .bool false, .int .i64 0, .int .i64 0, .int .i64 0, .slice none 0 0]) (t := 27) ?hr ?_; (case hd => rfl); (case hg => rfl); (case hr => first | (go_simp; done) | (go_simp; rfl)); intro g1 hg w1 hbox hb; have HB1 := zzm (zzp HB.out hb); have BK1 := zzm hbox; have GE1 := zzm (show w.heap.size ≤ g1 by rw [hg]; exact HB.out.size); clear hb hbox hg) | ((with_reducible refine gate_dst (N := 18) rfl ?_); refine Kd.R_lit (Kd.int .i64) _ 3 ?hg (N := 18) ?hd (xs := ([] : List Int)) (inner := []) (ok := fun _ => True) (okp := fun _ => True) ?hr ?hp (fun _ hk => hk) trivial (Below.refl _ _) (Nat.le_refl _) (by simp) ?_; (case hd => rfl); (case hg => rfl); (case hr => first | (go_simp; done) | (go_simp; rfl)); (case hp => exact (Reps.none _ _)); intro v18 w2 ho hb hg_ hnew_; have HK2 := zzm (Kd.R_lower (Kd.R_mono (Kd.R_bound (Kd.R_newB ho BK1.out)) (fun k hk => (⟨Nat.le_trans HB1.out.size hk.2.1, hk.1.2⟩ : w.heap.size ≤ k ∧ k ≠ g1))) HB1.out.size); have HB2 := zzm (zzp HB1.out hb); have BK2 := zzm (zzh BK1.out hb); clear hg_ hnew_ ho hb; obtain ⟨Ak, ck, e_⟩ := Kd.R_slice HK2.out; subst e_) | ((with_reducible refine gate_dst (N := 20) rfl ?_); refine Kd.R_lit (Kd.int .i64) _ 3 ?hg (N := 20) ?hd (xs := ([1] : List Int)) (inner := [.int .i64 1]) (ok := fun _ => True) (okp := fun _ => True) ?hr ?hp (fun _ hk => hk) trivial (Below.refl _ _) (Nat.le_refl _) (by simp) ?_; (case hd => rfl); (case hg => rfl); (case hr => first | (go_simp; done) | (go_simp; rfl)); (case hp => exact (Reps.one (show Kd.M (Kd.int .i64) _ _ _ 1 [.int .i64 1] from rfl) (Reps.none _ _))); intro v20 w3 ho hb hg_ hnew_; have HV3 := zzm (Kd.R_lower (Kd.R_mono (Kd.R_bound (Kd.R_newB ho BK2.out)) (fun k hk => (⟨Nat.le_trans HB2.out.size hk.2.1, hk.1.2⟩ : w.heap.size ≤ k ∧ k ≠ g1))) HB2.out.size); have HB3 := zzm (zzp HB2.out hb); have BK3 := zzm (zzh BK2.out hb); have HK3 := zzm (Kd.R_below HK2.out hb); clear hg_ hnew_ ho hb; obtain ⟨Av, cv, e_⟩ := Kd.R_slice HV3.out; subst e_) | ((with_reducible refine gate_dst (N := 13) rfl ?_); refine box_event ?hg (N := 13) ?hd (cs := #[.int .i64 0, .int .i64 0, .bool false, .slice none 0 0, .bool false, .slice none 0 0]) (t := 34) ?hr ?_; (case hd => rfl); (case hg => rfl); (case hr => first | (go_simp; done) | (go_simp; rfl)); intro g2 hg w4 hbox hb; have HB4 := zzm (zzp HB3.out hb); have BK4 := zzm (zzh BK3.out hb); have HK4 := zzm (Kd.R_below HK3.out hb); have HV4 := zzm (Kd.R_below HV3.out hb); have BX := zzm hbox; have GE2 := zzm (show w.heap.size ≤ g2 by rw [hg]; exact HB3.out.size); have NE := zzm (show g1 ≠ g2 by rw [hg]; exact Nat.ne_of_lt (blk_lt BK3.out)); clear hb hbox hg; have hz0 : w4.cell? ⟨_, 0, none⟩ = some _ := (zzk BX.out 0).trans rfl; have hf0 := zzl BX.out 0; have hz1 : w4.cell? ⟨_, 1, none⟩ = some _ := (zzk BX.out 1).trans rfl; have hf1 := zzl BX.out 1; have hz2 : w4.cell? ⟨_, 2, none⟩ = some _ := (zzk BX.out 2).trans rfl; have hf2 := zzl BX.out 2; have hz3 : w4.cell? ⟨_, 3, none⟩ = some _ := (zzk BX.out 3).trans rfl; have hf3 := zzl BX.out 3; have hz4 : w4.cell? ⟨_, 4, none⟩ = some _ := (zzk BX.out 4).trans rfl; have hf4 := zzl BX.out 4; have hz5 : w4.cell? ⟨_, 5, none⟩ = some _ := (zzk BX.out 5).trans rfl; have hf5 := zzl BX.out 5))
   have HK5 := zzm (Kd.R_mono (Kd.R_far (p := ⟨g2, 5, none⟩) (Kd.R_far (p := ⟨g2, 4, none⟩) (Kd.R_far (p := ⟨g2, 3, none⟩) (Kd.R_far (p := ⟨g2, 2, none⟩) (Kd.R_far (p := ⟨g2, 1, none⟩) (Kd.R_far (p := ⟨g2, 0, none⟩) (Kd.R_types HK4.out BX.out (by decide)) (fun _ hk => hk.2) (.int .i64 a2)) (fun _ hk => hk.2) (.int .i64 a3)) (fun _ hk => hk.2) (.bool false)) (fun _ hk => hk.2) (.slice Ak ([] : List Int).length ck)) (fun _ hk => hk.2) (.bool true)) (fun _ hk => hk.2) (.slice Av ([1] : List Int).length cv)) (fun k hk => hk.1))
   have HV5 := zzm (Kd.R_mono (Kd.R_far (p := ⟨g2, 5, none⟩) (Kd.R_far (p := ⟨g2, 4, none⟩) (Kd.R_far (p := ⟨g2, 3, none⟩) (Kd.R_far (p := ⟨g2, 2, none⟩) (Kd.R_far (p := ⟨g2, 1, none⟩) (Kd.R_far (p := ⟨g2, 0, none⟩) (Kd.R_types HV4.out BX.out (by decide)) (fun _ hk => hk.2) (.int .i64 a2)) (fun _ hk => hk.2) (.int .i64 a3)) (fun _ hk => hk.2) (.bool false)) (fun _ hk => hk.2) (.slice Ak ([] : List Int).length ck)) (fun _ hk => hk.2) (.bool true)) (fun _ hk => hk.2) (.slice Av ([1] : List Int).length cv)) (fun k hk => hk.1))
   have BK5 := zzm (zzj (p := ⟨g2, 5, none⟩) (zzj (p := ⟨g2, 4, none⟩) (zzj (p := ⟨g2, 3, none⟩) (zzj (p := ⟨g2, 2, none⟩) (zzj (p := ⟨g2, 1, none⟩) (zzj (p := ⟨g2, 0, none⟩) (BK4.out) NE.out (.int .i64 a2)) NE.out (.int .i64 a3)) NE.out (.bool false)) NE.out (.slice Ak ([] : List Int).length ck)) NE.out (.bool true)) NE.out (.slice Av ([1] : List Int).length cv))
   have BX5 := zzm (zzi (cs := #[.int .i64 a2, .int .i64 a3, .bool false, .slice Ak ([] : List Int).length ck, .bool true, .slice none 0 0]) (cs' := #[.int .i64 a2, .int .i64 a3, .bool false, .slice Ak ([] : List Int).length ck, .bool true, .slice Av ([1] : List Int).length cv]) (zzi (cs := #[.int .i64 a2, .int .i64 a3, .bool false, .slice Ak ([] : List Int).length ck, .bool false, .slice none 0 0]) (cs' := #[.int .i64 a2, .int .i64 a3, .bool false, .slice Ak ([] : List Int).length ck, .bool true, .slice none 0 0]) (zzi (cs := #[.int .i64 a2, .int .i64 a3, .bool false, .slice none 0 0, .bool false, .slice none 0 0]) (cs' := #[.int .i64 a2, .int .i64 a3, .bool false, .slice Ak ([] : List Int).length ck, .bool false, .slice none 0 0]) (zzi (cs := #[.int .i64 a2, .int .i64 a3, .bool false, .slice none 0 0, .bool false, .slice none 0 0]) (cs' := #[.int .i64 a2, .int .i64 a3, .bool false, .slice none 0 0, .bool false, .slice none 0 0]) (zzi (cs := #[.int .i64 a2, .int .i64 0, .bool false, .slice none 0 0, .bool false, .slice none 0 0]) (cs' := #[.int .i64 a2, .int .i64 a3, .bool false, .slice none 0 0, .bool false, .slice none 0 0]) (zzi (cs := #[.int .i64 0, .int .i64 0, .bool false, .slice none 0 0, .bool false, .slice none 0 0]) (cs' := #[.int .i64 a2, .int .i64 0, .bool false, .slice none 0 0, .bool false, .slice none 0 0]) (BX.out) 0 (.int .i64 a2) rfl) 1 (.int .i64 a3) rfl) 2 (.bool false) rfl) 3 (.slice Ak ([] : List Int).length ck) rfl) 4 (.bool true) rfl) 5 (.slice Av ([1] : List Int).length cv) rfl)
   have HB5 := zzm (zzd (zzd (zzd (zzd (zzd (zzd (HB4.out) GE2.out (j := 0) (v := .int .i64 a2)) GE2.out (j := 1) (v := .int .i64 a3)) GE2.out (j := 2) (v := .bool false)) GE2.out (j := 3) (v := .slice Ak ([] : List Int).length ck)) GE2.out (j := 4) (v := .bool true)) GE2.out (j := 5) (v := .slice Av ([1] : List Int).length cv))
   clear hz0 hz1 hz2 hz3 hz4 hz5 hf0 hf1 hf2 hf3 hf4 hf5 HB1 HB2 HB3 HB4 BK1 BK2 BK3 BK4 HK2 HK3 HK4 HV3 HV4 BX
   generalize (((((w4.setCell ⟨g2, 0, none⟩ (.int .i64 a2)).setCell ⟨g2, 1, none⟩ (.int .i64 a3)).setCell ⟨g2, 2, none⟩ (.bool false)).setCell ⟨g2, 3, none⟩ (.slice Ak ([] : List Int).length ck)).setCell ⟨g2, 4, none⟩ (.bool true)).setCell ⟨g2, 5, none⟩ (.slice Av ([1] : List Int).length cv) = w5 at HK5 HV5 BK5 BX5 HB5 ⊢
   have d0 : w5.cell? ⟨g2, 0, none⟩ = some (.int .i64 a2) := (zzk BX5.out 0).trans rfl
   have d1 : w5.cell? ⟨g2, 1, none⟩ = some (.int .i64 a3) := (zzk BX5.out 1).trans rfl
   have d2 : w5.cell? ⟨g2, 2, none⟩ = some (.bool false) := (zzk BX5.out 2).trans rfl
   have d3 : w5.cell? ⟨g2, 3, none⟩ = some (.slice Ak ([] : List Int).length ck) := (zzk BX5.out 3).trans rfl
   have d4 : w5.cell? ⟨g2, 4, none⟩ = some (.bool true) := (zzk BX5.out 4).trans rfl
   have d5 : w5.cell? ⟨g2, 5, none⟩ = some (.slice Av ([1] : List Int).length cv) := (zzk BX5.out 5).trans rfl
   go_upto_region 6 with (first | ((with_reducible refine gate_dst (N := 25) rfl ?_); refine Kd.N_lit k34 _ 34 ?hg (N' := 25) ?hd (xs := ([(⟨a2, a3, false, [], true, [1]⟩ : S34)] : List (S34))) (inner := [.int .i64 a2, .int .i64 a3, .bool false, .slice Ak ([] : List Int).length ck, .bool true, .slice Av ([1] : List Int).length cv]) (ok := (fun k => w.heap.size ≤ k ∧ k ≠ g1)) (okp := (fun k => w.heap.size ≤ k ∧ k ≠ g1)) ?hr ?hp (fun _ hk => hk) ((show ∀ k, w5.heap.size ≤ k → (fun k => w.heap.size ≤ k ∧ k ≠ g1) k from fun k hk => ⟨Nat.le_trans HB5.out.size hk, fun e => by have := blk_lt BK5.out; omega⟩) _ (Nat.le_refl _)) (Below.refl _ _) (Nat.le_refl _) (by simp) ?_; (case hd => rfl); (case hg => rfl); (case hr => first | (go_simp; done) | (go_simp; rfl)); (case hp => exact (Reps.c6 (show Kd.FK k34 _ _ (⟨a2, a3, false, [], true, [1]⟩ : S34) [.int .i64 a2, .int .i64 a3, .bool false, .slice Ak ([] : List Int).length ck, .bool true, .slice Av ([1] : List Int).length cv] from (k34_mkF _ _ (⟨a2, a3, false, [], true, [1]⟩ : S34) (Kd.R_reads' HK5.out).2.1 (Kd.R_F HK5.out) (Kd.R_reads' HV5.out).2.1 (Kd.R_F HV5.out))) (Reps.none _ _))); intro v25 w6 ho hb hg_ hnew_; have HN6 := zzm (Kd.N_lower ho HB5.out.size); have HB6 := zzm (zzp HB5.out hb); have BK6 := zzm (zzh BK5.out hb); clear hg_ hnew_ ho hb; obtain ⟨An, cn, e_⟩ := Kd.N_slice HN6.out; subst e_) | ((with_reducible refine gate_dst (N := 14) rfl ?_); refine box_event ?hg (N := 14) ?hd (cs := #[.bool false, .bool false, .int .i64 0, .int .i64 0, .int .i64 0, .slice none 0 0]) (t := 27) ?hr ?_; (case hd => rfl); (case hg => rfl); (case hr => first | (go_simp; done) | (go_simp; rfl)); intro g3 hg w7 hbox hb; have HB7 := zzm (zzp HB6.out hb); have BK7 := zzm (zzh BK6.out hb); have HN7 := zzm (Kd.N_below (Kd.N_elderB HN6.out g3 (Nat.le_of_eq hg.symm)) hb); have BY := zzm hbox; have GE3 := zzm (show w.heap.size ≤ g3 by rw [hg]; exact HB6.out.size); have NE3 := zzm (show g1 ≠ g3 by rw [hg]; exact Nat.ne_of_lt (blk_lt BK6.out)); clear hb hbox hg d0 d1 d2 d3 d4 d5; have hz0 : w7.cell? ⟨_, 0, none⟩ = some _ := (zzk BY.out 0).trans rfl; have hf0 := zzl BY.out 0; have hz1 : w7.cell? ⟨_, 1, none⟩ = some _ := (zzk BY.out 1).trans rfl; have hf1 := zzl BY.out 1; have hz2 : w7.cell? ⟨_, 2, none⟩ = some _ := (zzk BY.out 2).trans rfl; have hf2 := zzl BY.out 2; have hz3 : w7.cell? ⟨_, 3, none⟩ = some _ := (zzk BY.out 3).trans rfl; have hf3 := zzl BY.out 3; have hz4 : w7.cell? ⟨_, 4, none⟩ = some _ := (zzk BY.out 4).trans rfl; have hf4 := zzl BY.out 4; have hz5 : w7.cell? ⟨_, 5, none⟩ = some _ := (zzk BY.out 5).trans rfl; have hf5 := zzl BY.out 5))
   have HN8 := zzm (Kd.N_far (p := ⟨g3, 5, none⟩) (Kd.N_far (p := ⟨g3, 4, none⟩) (Kd.N_far (p := ⟨g3, 3, none⟩) (Kd.N_far (p := ⟨g3, 2, none⟩) (Kd.N_far (p := ⟨g3, 1, none⟩) (Kd.N_far (p := ⟨g3, 0, none⟩) (HN7.out) (fun _ hk => hk.2) (.bool false)) (fun _ hk => hk.2) (.bool true)) (fun _ hk => hk.2) (.int .i64 a0)) (fun _ hk => hk.2) (.int .i64 a1)) (fun _ hk => hk.2) (.int .i64 0)) (fun _ hk => hk.2) (.slice An ([(⟨a2, a3, false, [], true, [1]⟩ : S34)] : List S34).length cn))
   have BK8 := zzm (zzj (p := ⟨g3, 5, none⟩) (zzj (p := ⟨g3, 4, none⟩) (zzj (p := ⟨g3, 3, none⟩) (zzj (p := ⟨g3, 2, none⟩) (zzj (p := ⟨g3, 1, none⟩) (zzj (p := ⟨g3, 0, none⟩) (BK7.out) NE3.out (.bool false)) NE3.out (.bool true)) NE3.out (.int .i64 a0)) NE3.out (.int .i64 a1)) NE3.out (.int .i64 0)) NE3.out (.slice An ([(⟨a2, a3, false, [], true, [1]⟩ : S34)] : List S34).length cn))
   have BY8 := zzm (zzi (cs := #[.bool false, .bool true, .int .i64 a0, .int .i64 a1, .int .i64 0, .slice none 0 0]) (cs' := #[.bool false, .bool true, .int .i64 a0, .int .i64 a1, .int .i64 0, .slice An ([(⟨a2, a3, false, [], true, [1]⟩ : S34)] : List S34).length cn]) (zzi (cs := #[.bool false, .bool true, .int .i64 a0, .int .i64 a1, .int .i64 0, .slice none 0 0]) (cs' := #[.bool false, .bool true, .int .i64 a0, .int .i64 a1, .int .i64 0, .slice none 0 0]) (zzi (cs := #[.bool false, .bool true, .int .i64 a0, .int .i64 0, .int .i64 0, .slice none 0 0]) (cs' := #[.bool false, .bool true, .int .i64 a0, .int .i64 a1, .int .i64 0, .slice none 0 0]) (zzi (cs := #[.bool false, .bool true, .int .i64 0, .int .i64 0, .int .i64 0, .slice none 0 0]) (cs' := #[.bool false, .bool true, .int .i64 a0, .int .i64 0, .int .i64 0, .slice none 0 0]) (zzi (cs := #[.bool false, .bool false, .int .i64 0, .int .i64 0, .int .i64 0, .slice none 0 0]) (cs' := #[.bool false, .bool true, .int .i64 0, .int .i64 0, .int .i64 0, .slice none 0 0]) (zzi (cs := #[.bool false, .bool false, .int .i64 0, .int .i64 0, .int .i64 0, .slice none 0 0]) (cs' := #[.bool false, .bool false, .int .i64 0, .int .i64 0, .int .i64 0, .slice none 0 0]) (BY.out) 0 (.bool false) rfl) 1 (.bool true) rfl) 2 (.int .i64 a0) rfl) 3 (.int .i64 a1) rfl) 4 (.int .i64 0) rfl) 5 (.slice An ([(⟨a2, a3, false, [], true, [1]⟩ : S34)] : List S34).length cn) rfl)
   have HB8 := zzm (zzd (zzd (zzd (zzd (zzd (zzd (HB7.out) GE3.out (j := 0) (v := .bool false)) GE3.out (j := 1) (v := .bool true)) GE3.out (j := 2) (v := .int .i64 a0)) GE3.out (j := 3) (v := .int .i64 a1)) GE3.out (j := 4) (v := .int .i64 0)) GE3.out (j := 5) (v := .slice An ([(⟨a2, a3, false, [], true, [1]⟩ : S34)] : List S34).length cn))
   clear hz0 hz1 hz2 hz3 hz4 hz5 hf0 hf1 hf2 hf3 hf4 hf5 HB5 HB6 HB7 BK5 BK6 BK7 HN6 HN7 HK5 HV5 BX5 BY
   generalize (((((w7.setCell ⟨g3, 0, none⟩ (.bool false)).setCell ⟨g3, 1, none⟩ (.bool true)).setCell ⟨g3, 2, none⟩ (.int .i64 a0)).setCell ⟨g3, 3, none⟩ (.int .i64 a1)).setCell ⟨g3, 4, none⟩ (.int .i64 0)).setCell ⟨g3, 5, none⟩ (.slice An ([(⟨a2, a3, false, [], true, [1]⟩ : S34)] : List S34).length cn) = w8 at HN8 BK8 BY8 HB8 ⊢
   have d0 : w8.cell? ⟨g3, 0, none⟩ = some (.bool false) := (zzk BY8.out 0).trans rfl
   have d1 : w8.cell? ⟨g3, 1, none⟩ = some (.bool true) := (zzk BY8.out 1).trans rfl
   have d2 : w8.cell? ⟨g3, 2, none⟩ = some (.int .i64 a0) := (zzk BY8.out 2).trans rfl
   have d3 : w8.cell? ⟨g3, 3, none⟩ = some (.int .i64 a1) := (zzk BY8.out 3).trans rfl
   have d4 : w8.cell? ⟨g3, 4, none⟩ = some (.int .i64 0) := (zzk BY8.out 4).trans rfl
   have d5 : w8.cell? ⟨g3, 5, none⟩ = some (.slice An ([(⟨a2, a3, false, [], true, [1]⟩ : S34)] : List S34).length cn) := (zzk BY8.out 5).trans rfl
   go_wp2_with (((with_reducible refine gate_callee (f := 55) rfl ?_); refine goesL_ (some 28) rfl rfl Try.func55 (by kernel_rfl) rfl #[.agg #[.bool false, .bool true, .int .i64 a0, .int .i64 a1, .int .i64 0, .slice An ([(⟨a2, a3, false, [], true, [1]⟩ : S34)] : List S34).length cn]] rfl (by (try simp only [List.map_toArray, List.map_cons, List.map_nil]); first | done | rfl) ?_; (with_reducible refine (spec_BatchValid.calls k false true a0 a1 0 _ _ ([(⟨a2, a3, false, [], true, [1]⟩ : S34)] : List S34) true _ ?s1 ?s2 A7.out).mono ?_); (case s1 => exact (Kd.N_reads' HN8.out).2.2); (case s2 => exact (Kd.N_reads' HN8.out).2.1); rintro e w9 ⟨rfl, hb⟩; refine ⟨_, rfl, ?_⟩; have HN9 := zzm (Kd.N_below HN8.out hb); have BK9 := zzm (zzh BK8.out hb); have BY9 := zzm (zzh BY8.out hb); have HB9 := zzm (zzp HB8.out hb); clear hb d0 d1 d2 d3 d4 d5; have hz0 : w9.cell? ⟨_, 0, none⟩ = some _ := (zzk BK9.out 0).trans rfl; have hf0 := zzl BK9.out 0; have hz1 : w9.cell? ⟨_, 1, none⟩ = some _ := (zzk BK9.out 1).trans rfl; have hf1 := zzl BK9.out 1; have hz2 : w9.cell? ⟨_, 2, none⟩ = some _ := (zzk BK9.out 2).trans rfl; have hf2 := zzl BK9.out 2; have hz3 : w9.cell? ⟨_, 3, none⟩ = some _ := (zzk BK9.out 3).trans rfl; have hf3 := zzl BK9.out 3; have hz4 : w9.cell? ⟨_, 4, none⟩ = some _ := (zzk BK9.out 4).trans rfl; have hf4 := zzl BK9.out 4; have hz5 : w9.cell? ⟨_, 5, none⟩ = some _ := (zzk BK9.out 5).trans rfl; have hf5 := zzl BK9.out 5; have d0 : w9.cell? ⟨g3, 0, none⟩ = some (.bool false) := (zzk BY9.out 0).trans rfl; have d1 : w9.cell? ⟨g3, 1, none⟩ = some (.bool true) := (zzk BY9.out 1).trans rfl; have d2 : w9.cell? ⟨g3, 2, none⟩ = some (.int .i64 a0) := (zzk BY9.out 2).trans rfl; have d3 : w9.cell? ⟨g3, 3, none⟩ = some (.int .i64 a1) := (zzk BY9.out 3).trans rfl; have d4 : w9.cell? ⟨g3, 4, none⟩ = some (.int .i64 0) := (zzk BY9.out 4).trans rfl; have d5 : w9.cell? ⟨g3, 5, none⟩ = some (.slice An ([(⟨a2, a3, false, [], true, [1]⟩ : S34)] : List S34).length cn) := (zzk BY9.out 5).trans rfl))
   refine bodyPost_ret (results_ct rfl _ _ g1 27 #[.bool false, .bool true, .int .i64 a0, .int .i64 a1, .int .i64 0, .slice An ([(⟨a2, a3, false, [], true, [1]⟩ : S34)] : List S34).length cn] (0, 0) _ rfl (zzi (cs := #[.bool false, .bool true, .int .i64 a0, .int .i64 a1, .int .i64 0, .slice none 0 0]) (cs' := #[.bool false, .bool true, .int .i64 a0, .int .i64 a1, .int .i64 0, .slice An ([(⟨a2, a3, false, [], true, [1]⟩ : S34)] : List S34).length cn]) (zzi (cs := #[.bool false, .bool true, .int .i64 a0, .int .i64 a1, .int .i64 0, .slice none 0 0]) (cs' := #[.bool false, .bool true, .int .i64 a0, .int .i64 a1, .int .i64 0, .slice none 0 0]) (zzi (cs := #[.bool false, .bool true, .int .i64 a0, .int .i64 0, .int .i64 0, .slice none 0 0]) (cs' := #[.bool false, .bool true, .int .i64 a0, .int .i64 a1, .int .i64 0, .slice none 0 0]) (zzi (cs := #[.bool false, .bool true, .int .i64 0, .int .i64 0, .int .i64 0, .slice none 0 0]) (cs' := #[.bool false, .bool true, .int .i64 a0, .int .i64 0, .int .i64 0, .slice none 0 0]) (zzi (cs := #[.bool false, .bool false, .int .i64 0, .int .i64 0, .int .i64 0, .slice none 0 0]) (cs' := #[.bool false, .bool true, .int .i64 0, .int .i64 0, .int .i64 0, .slice none 0 0]) (zzi (cs := #[.bool false, .bool false, .int .i64 0, .int .i64 0, .int .i64 0, .slice none 0 0]) (cs' := #[.bool false, .bool false, .int .i64 0, .int .i64 0, .int .i64 0, .slice none 0 0]) (BK9.out) 0 (.bool false) rfl) 1 (.bool true) rfl) 2 (.int .i64 a0) rfl) 3 (.int .i64 a1) rfl) 4 (.int .i64 0) rfl) 5 (.slice An ([(⟨a2, a3, false, [], true, [1]⟩ : S34)] : List S34).length cn) rfl) Try.underlying27 rfl (by kernel_rfl)) rfl ?_
   exact ⟨_, rfl, Kd.N_mono (Kd.N_far (p := ⟨g1, 5, none⟩) (Kd.N_far (p := ⟨g1, 4, none⟩) (Kd.N_far (p := ⟨g1, 3, none⟩) (Kd.N_far (p := ⟨g1, 2, none⟩) (Kd.N_far (p := ⟨g1, 1, none⟩) (Kd.N_far (p := ⟨g1, 0, none⟩) (Kd.N_mono HN9.out (fun k hk => (⟨hk.1.1, hk.1.2⟩ : _ ∧ k ≠ g1))) (fun _ hk => hk.2) (.bool false)) (fun _ hk => hk.2) (.bool true)) (fun _ hk => hk.2) (.int .i64 a0)) (fun _ hk => hk.2) (.int .i64 a1)) (fun _ hk => hk.2) (.int .i64 0)) (fun _ hk => hk.2) (.slice An ([(⟨a2, a3, false, [], true, [1]⟩ : S34)] : List S34).length cn)) (fun _ hk => hk.1), zzd (zzd (zzd (zzd (zzd (zzd (HB9.out) GE1.out (j := 0) (v := .bool false)) GE1.out (j := 1) (v := .bool true)) GE1.out (j := 2) (v := .int .i64 a0)) GE1.out (j := 3) (v := .int .i64 a1)) GE1.out (j := 4) (v := .int .i64 0)) GE1.out (j := 5) (v := .slice An ([(⟨a2, a3, false, [], true, [1]⟩ : S34)] : List S34).length cn)⟩
  | false =>
   simp only [if_true, Bool.false_eq_true, if_false, Option.some.injEq, Prod.mk.injEq] at h A7
   obtain ⟨rfl, rfl, rfl, rfl, rfl, rfl, rfl⟩ := h
   go_enter Try.func20, Try.ntmps20
   go_upto_region 5 with (first | ((with_reducible refine gate_dst (N := 10) rfl ?_); refine box_event ?hg (N := 10) ?hd (cs := #[.bool false, .bool false, .int .i64 0, .int .i64 0, .int .i64 0, .slice none 0 0]) (t := 27) ?hr ?_; (case hd => rfl); (case hg => rfl); (case hr => first | (go_simp; done) | (go_simp; rfl)); intro g1 hg w1 hbox hb; have HB1 := zzm (zzp HB.out hb); have BK1 := zzm hbox; have GE1 := zzm (show w.heap.size ≤ g1 by rw [hg]; exact HB.out.size); clear hb hbox hg) | ((with_reducible refine gate_dst (N := 18) rfl ?_); refine Kd.R_lit (Kd.int .i64) _ 3 ?hg (N := 18) ?hd (xs := ([] : List Int)) (inner := []) (ok := fun _ => True) (okp := fun _ => True) ?hr ?hp (fun _ hk => hk) trivial (Below.refl _ _) (Nat.le_refl _) (by simp) ?_; (case hd => rfl); (case hg => rfl); (case hr => first | (go_simp; done) | (go_simp; rfl)); (case hp => exact (Reps.none _ _)); intro v18 w2 ho hb hg_ hnew_; have HK2 := zzm (Kd.R_lower (Kd.R_mono (Kd.R_bound (Kd.R_newB ho BK1.out)) (fun k hk => (⟨Nat.le_trans HB1.out.size hk.2.1, hk.1.2⟩ : w.heap.size ≤ k ∧ k ≠ g1))) HB1.out.size); have HB2 := zzm (zzp HB1.out hb); have BK2 := zzm (zzh BK1.out hb); clear hg_ hnew_ ho hb; obtain ⟨Ak, ck, e_⟩ := Kd.R_slice HK2.out; subst e_) | ((with_reducible refine gate_dst (N := 20) rfl ?_); refine Kd.R_lit (Kd.int .i64) _ 3 ?hg (N := 20) ?hd (xs := ([1] : List Int)) (inner := [.int .i64 1]) (ok := fun _ => True) (okp := fun _ => True) ?hr ?hp (fun _ hk => hk) trivial (Below.refl _ _) (Nat.le_refl _) (by simp) ?_; (case hd => rfl); (case hg => rfl); (case hr => first | (go_simp; done) | (go_simp; rfl)); (case hp => exact (Reps.one (show Kd.M (Kd.int .i64) _ _ _ 1 [.int .i64 1] from rfl) (Reps.none _ _))); intro v20 w3 ho hb hg_ hnew_; have HV3 := zzm (Kd.R_lower (Kd.R_mono (Kd.R_bound (Kd.R_newB ho BK2.out)) (fun k hk => (⟨Nat.le_trans HB2.out.size hk.2.1, hk.1.2⟩ : w.heap.size ≤ k ∧ k ≠ g1))) HB2.out.size); have HB3 := zzm (zzp HB2.out hb); have BK3 := zzm (zzh BK2.out hb); have HK3 := zzm (Kd.R_below HK2.out hb); clear hg_ hnew_ ho hb; obtain ⟨Av, cv, e_⟩ := Kd.R_slice HV3.out; subst e_) | ((with_reducible refine gate_dst (N := 13) rfl ?_); refine box_event ?hg (N := 13) ?hd (cs := #[.int .i64 0, .int .i64 0, .bool false, .slice none 0 0, .bool false, .slice none 0 0]) (t := 34) ?hr ?_; (case hd => rfl); (case hg => rfl); (case hr => first | (go_simp; done) | (go_simp; rfl)); intro g2 hg w4 hbox hb; have HB4 := zzm (zzp HB3.out hb); have BK4 := zzm (zzh BK3.out hb); have HK4 := zzm (Kd.R_below HK3.out hb); have HV4 := zzm (Kd.R_below HV3.out hb); have BX := zzm hbox; have GE2 := zzm (show w.heap.size ≤ g2 by rw [hg]; exact HB3.out.size); have NE := zzm (show g1 ≠ g2 by rw [hg]; exact Nat.ne_of_lt (blk_lt BK3.out)); clear hb hbox hg; have hz0 : w4.cell? ⟨_, 0, none⟩ = some _ := (zzk BX.out 0).trans rfl; have hf0 := zzl BX.out 0; have hz1 : w4.cell? ⟨_, 1, none⟩ = some _ := (zzk BX.out 1).trans rfl; have hf1 := zzl BX.out 1; have hz2 : w4.cell? ⟨_, 2, none⟩ = some _ := (zzk BX.out 2).trans rfl; have hf2 := zzl BX.out 2; have hz3 : w4.cell? ⟨_, 3, none⟩ = some _ := (zzk BX.out 3).trans rfl; have hf3 := zzl BX.out 3; have hz4 : w4.cell? ⟨_, 4, none⟩ = some _ := (zzk BX.out 4).trans rfl; have hf4 := zzl BX.out 4; have hz5 : w4.cell? ⟨_, 5, none⟩ = some _ := (zzk BX.out 5).trans rfl; have hf5 := zzl BX.out 5))
   have HK5 := zzm (Kd.R_mono (Kd.R_far (p := ⟨g2, 5, none⟩) (Kd.R_far (p := ⟨g2, 4, none⟩) (Kd.R_far (p := ⟨g2, 3, none⟩) (Kd.R_far (p := ⟨g2, 2, none⟩) (Kd.R_far (p := ⟨g2, 1, none⟩) (Kd.R_far (p := ⟨g2, 0, none⟩) (Kd.R_types HK4.out BX.out (by decide)) (fun _ hk => hk.2) (.int .i64 a2)) (fun _ hk => hk.2) (.int .i64 a3)) (fun _ hk => hk.2) (.bool false)) (fun _ hk => hk.2) (.slice Ak ([] : List Int).length ck)) (fun _ hk => hk.2) (.bool true)) (fun _ hk => hk.2) (.slice Av ([1] : List Int).length cv)) (fun k hk => hk.1))
   have HV5 := zzm (Kd.R_mono (Kd.R_far (p := ⟨g2, 5, none⟩) (Kd.R_far (p := ⟨g2, 4, none⟩) (Kd.R_far (p := ⟨g2, 3, none⟩) (Kd.R_far (p := ⟨g2, 2, none⟩) (Kd.R_far (p := ⟨g2, 1, none⟩) (Kd.R_far (p := ⟨g2, 0, none⟩) (Kd.R_types HV4.out BX.out (by decide)) (fun _ hk => hk.2) (.int .i64 a2)) (fun _ hk => hk.2) (.int .i64 a3)) (fun _ hk => hk.2) (.bool false)) (fun _ hk => hk.2) (.slice Ak ([] : List Int).length ck)) (fun _ hk => hk.2) (.bool true)) (fun _ hk => hk.2) (.slice Av ([1] : List Int).length cv)) (fun k hk => hk.1))
   have BK5 := zzm (zzj (p := ⟨g2, 5, none⟩) (zzj (p := ⟨g2, 4, none⟩) (zzj (p := ⟨g2, 3, none⟩) (zzj (p := ⟨g2, 2, none⟩) (zzj (p := ⟨g2, 1, none⟩) (zzj (p := ⟨g2, 0, none⟩) (BK4.out) NE.out (.int .i64 a2)) NE.out (.int .i64 a3)) NE.out (.bool false)) NE.out (.slice Ak ([] : List Int).length ck)) NE.out (.bool true)) NE.out (.slice Av ([1] : List Int).length cv))
   have BX5 := zzm (zzi (cs := #[.int .i64 a2, .int .i64 a3, .bool false, .slice Ak ([] : List Int).length ck, .bool true, .slice none 0 0]) (cs' := #[.int .i64 a2, .int .i64 a3, .bool false, .slice Ak ([] : List Int).length ck, .bool true, .slice Av ([1] : List Int).length cv]) (zzi (cs := #[.int .i64 a2, .int .i64 a3, .bool false, .slice Ak ([] : List Int).length ck, .bool false, .slice none 0 0]) (cs' := #[.int .i64 a2, .int .i64 a3, .bool false, .slice Ak ([] : List Int).length ck, .bool true, .slice none 0 0]) (zzi (cs := #[.int .i64 a2, .int .i64 a3, .bool false, .slice none 0 0, .bool false, .slice none 0 0]) (cs' := #[.int .i64 a2, .int .i64 a3, .bool false, .slice Ak ([] : List Int).length ck, .bool false, .slice none 0 0]) (zzi (cs := #[.int .i64 a2, .int .i64 a3, .bool false, .slice none 0 0, .bool false, .slice none 0 0]) (cs' := #[.int .i64 a2, .int .i64 a3, .bool false, .slice none 0 0, .bool false, .slice none 0 0]) (zzi (cs := #[.int .i64 a2, .int .i64 0, .bool false, .slice none 0 0, .bool false, .slice none 0 0]) (cs' := #[.int .i64 a2, .int .i64 a3, .bool false, .slice none 0 0, .bool false, .slice none 0 0]) (zzi (cs := #[.int .i64 0, .int .i64 0, .bool false, .slice none 0 0, .bool false, .slice none 0 0]) (cs' := #[.int .i64 a2, .int .i64 0, .bool false, .slice none 0 0, .bool false, .slice none 0 0]) (BX.out) 0 (.int .i64 a2) rfl) 1 (.int .i64 a3) rfl) 2 (.bool false) rfl) 3 (.slice Ak ([] : List Int).length ck) rfl) 4 (.bool true) rfl) 5 (.slice Av ([1] : List Int).length cv) rfl)
   have HB5 := zzm (zzd (zzd (zzd (zzd (zzd (zzd (HB4.out) GE2.out (j := 0) (v := .int .i64 a2)) GE2.out (j := 1) (v := .int .i64 a3)) GE2.out (j := 2) (v := .bool false)) GE2.out (j := 3) (v := .slice Ak ([] : List Int).length ck)) GE2.out (j := 4) (v := .bool true)) GE2.out (j := 5) (v := .slice Av ([1] : List Int).length cv))
   clear hz0 hz1 hz2 hz3 hz4 hz5 hf0 hf1 hf2 hf3 hf4 hf5 HB1 HB2 HB3 HB4 BK1 BK2 BK3 BK4 HK2 HK3 HK4 HV3 HV4 BX
   generalize (((((w4.setCell ⟨g2, 0, none⟩ (.int .i64 a2)).setCell ⟨g2, 1, none⟩ (.int .i64 a3)).setCell ⟨g2, 2, none⟩ (.bool false)).setCell ⟨g2, 3, none⟩ (.slice Ak ([] : List Int).length ck)).setCell ⟨g2, 4, none⟩ (.bool true)).setCell ⟨g2, 5, none⟩ (.slice Av ([1] : List Int).length cv) = w5 at HK5 HV5 BK5 BX5 HB5 ⊢
   have d0 : w5.cell? ⟨g2, 0, none⟩ = some (.int .i64 a2) := (zzk BX5.out 0).trans rfl
   have d1 : w5.cell? ⟨g2, 1, none⟩ = some (.int .i64 a3) := (zzk BX5.out 1).trans rfl
   have d2 : w5.cell? ⟨g2, 2, none⟩ = some (.bool false) := (zzk BX5.out 2).trans rfl
   have d3 : w5.cell? ⟨g2, 3, none⟩ = some (.slice Ak ([] : List Int).length ck) := (zzk BX5.out 3).trans rfl
   have d4 : w5.cell? ⟨g2, 4, none⟩ = some (.bool true) := (zzk BX5.out 4).trans rfl
   have d5 : w5.cell? ⟨g2, 5, none⟩ = some (.slice Av ([1] : List Int).length cv) := (zzk BX5.out 5).trans rfl
   go_upto_region 6 with (first | ((with_reducible refine gate_dst (N := 25) rfl ?_); refine Kd.N_lit k34 _ 34 ?hg (N' := 25) ?hd (xs := ([(⟨a2, a3, false, [], true, [1]⟩ : S34)] : List (S34))) (inner := [.int .i64 a2, .int .i64 a3, .bool false, .slice Ak ([] : List Int).length ck, .bool true, .slice Av ([1] : List Int).length cv]) (ok := (fun k => w.heap.size ≤ k ∧ k ≠ g1)) (okp := (fun k => w.heap.size ≤ k ∧ k ≠ g1)) ?hr ?hp (fun _ hk => hk) ((show ∀ k, w5.heap.size ≤ k → (fun k => w.heap.size ≤ k ∧ k ≠ g1) k from fun k hk => ⟨Nat.le_trans HB5.out.size hk, fun e => by have := blk_lt BK5.out; omega⟩) _ (Nat.le_refl _)) (Below.refl _ _) (Nat.le_refl _) (by simp) ?_; (case hd => rfl); (case hg => rfl); (case hr => first | (go_simp; done) | (go_simp; rfl)); (case hp => exact (Reps.c6 (show Kd.FK k34 _ _ (⟨a2, a3, false, [], true, [1]⟩ : S34) [.int .i64 a2, .int .i64 a3, .bool false, .slice Ak ([] : List Int).length ck, .bool true, .slice Av ([1] : List Int).length cv] from (k34_mkF _ _ (⟨a2, a3, false, [], true, [1]⟩ : S34) (Kd.R_reads' HK5.out).2.1 (Kd.R_F HK5.out) (Kd.R_reads' HV5.out).2.1 (Kd.R_F HV5.out))) (Reps.none _ _))); intro v25 w6 ho hb hg_ hnew_; have HN6 := zzm (Kd.N_lower ho HB5.out.size); have HB6 := zzm (zzp HB5.out hb); have BK6 := zzm (zzh BK5.out hb); clear hg_ hnew_ ho hb; obtain ⟨An, cn, e_⟩ := Kd.N_slice HN6.out; subst e_) | ((with_reducible refine gate_dst (N := 14) rfl ?_); refine box_event ?hg (N := 14) ?hd (cs := #[.bool false, .bool false, .int .i64 0, .int .i64 0, .int .i64 0, .slice none 0 0]) (t := 27) ?hr ?_; (case hd => rfl); (case hg => rfl); (case hr => first | (go_simp; done) | (go_simp; rfl)); intro g3 hg w7 hbox hb; have HB7 := zzm (zzp HB6.out hb); have BK7 := zzm (zzh BK6.out hb); have HN7 := zzm (Kd.N_below (Kd.N_elderB HN6.out g3 (Nat.le_of_eq hg.symm)) hb); have BY := zzm hbox; have GE3 := zzm (show w.heap.size ≤ g3 by rw [hg]; exact HB6.out.size); have NE3 := zzm (show g1 ≠ g3 by rw [hg]; exact Nat.ne_of_lt (blk_lt BK6.out)); clear hb hbox hg d0 d1 d2 d3 d4 d5; have hz0 : w7.cell? ⟨_, 0, none⟩ = some _ := (zzk BY.out 0).trans rfl; have hf0 := zzl BY.out 0; have hz1 : w7.cell? ⟨_, 1, none⟩ = some _ := (zzk BY.out 1).trans rfl; have hf1 := zzl BY.out 1; have hz2 : w7.cell? ⟨_, 2, none⟩ = some _ := (zzk BY.out 2).trans rfl; have hf2 := zzl BY.out 2; have hz3 : w7.cell? ⟨_, 3, none⟩ = some _ := (zzk BY.out 3).trans rfl; have hf3 := zzl BY.out 3; have hz4 : w7.cell? ⟨_, 4, none⟩ = some _ := (zzk BY.out 4).trans rfl; have hf4 := zzl BY.out 4; have hz5 : w7.cell? ⟨_, 5, none⟩ = some _ := (zzk BY.out 5).trans rfl; have hf5 := zzl BY.out 5))
   have HN8 := zzm (Kd.N_far (p := ⟨g3, 5, none⟩) (Kd.N_far (p := ⟨g3, 4, none⟩) (Kd.N_far (p := ⟨g3, 3, none⟩) (Kd.N_far (p := ⟨g3, 2, none⟩) (Kd.N_far (p := ⟨g3, 1, none⟩) (Kd.N_far (p := ⟨g3, 0, none⟩) (HN7.out) (fun _ hk => hk.2) (.bool false)) (fun _ hk => hk.2) (.bool true)) (fun _ hk => hk.2) (.int .i64 a0)) (fun _ hk => hk.2) (.int .i64 a1)) (fun _ hk => hk.2) (.int .i64 0)) (fun _ hk => hk.2) (.slice An ([(⟨a2, a3, false, [], true, [1]⟩ : S34)] : List S34).length cn))
   have BK8 := zzm (zzj (p := ⟨g3, 5, none⟩) (zzj (p := ⟨g3, 4, none⟩) (zzj (p := ⟨g3, 3, none⟩) (zzj (p := ⟨g3, 2, none⟩) (zzj (p := ⟨g3, 1, none⟩) (zzj (p := ⟨g3, 0, none⟩) (BK7.out) NE3.out (.bool false)) NE3.out (.bool true)) NE3.out (.int .i64 a0)) NE3.out (.int .i64 a1)) NE3.out (.int .i64 0)) NE3.out (.slice An ([(⟨a2, a3, false, [], true, [1]⟩ : S34)] : List S34).length cn))
   have BY8 := zzm (zzi (cs := #[.bool false, .bool true, .int .i64 a0, .int .i64 a1, .int .i64 0, .slice none 0 0]) (cs' := #[.bool false, .bool true, .int .i64 a0, .int .i64 a1, .int .i64 0, .slice An ([(⟨a2, a3, false, [], true, [1]⟩ : S34)] : List S34).length cn]) (zzi (cs := #[.bool false, .bool true, .int .i64 a0, .int .i64 a1, .int .i64 0, .slice none 0 0]) (cs' := #[.bool false, .bool true, .int .i64 a0, .int .i64 a1, .int .i64 0, .slice none 0 0]) (zzi (cs := #[.bool false, .bool true, .int .i64 a0, .int .i64 0, .int .i64 0, .slice none 0 0]) (cs' := #[.bool false, .bool true, .int .i64 a0, .int .i64 a1, .int .i64 0, .slice none 0 0]) (zzi (cs := #[.bool false, .bool true, .int .i64 0, .int .i64 0, .int .i64 0, .slice none 0 0]) (cs' := #[.bool false, .bool true, .int .i64 a0, .int .i64 0, .int .i64 0, .slice none 0 0]) (zzi (cs := #[.bool false, .bool false, .int .i64 0, .int .i64 0, .int .i64 0, .slice none 0 0]) (cs' := #[.bool false, .bool true, .int .i64 0, .int .i64 0, .int .i64 0, .slice none 0 0]) (zzi (cs := #[.bool false, .bool false, .int .i64 0, .int .i64 0, .int .i64 0, .slice none 0 0]) (cs' := #[.bool false, .bool false, .int .i64 0, .int .i64 0, .int .i64 0, .slice none 0 0]) (BY.out) 0 (.bool false) rfl) 1 (.bool true) rfl) 2 (.int .i64 a0) rfl) 3 (.int .i64 a1) rfl) 4 (.int .i64 0) rfl) 5 (.slice An ([(⟨a2, a3, false, [], true, [1]⟩ : S34)] : List S34).length cn) rfl)
   have HB8 := zzm (zzd (zzd (zzd (zzd (zzd (zzd (HB7.out) GE3.out (j := 0) (v := .bool false)) GE3.out (j := 1) (v := .bool true)) GE3.out (j := 2) (v := .int .i64 a0)) GE3.out (j := 3) (v := .int .i64 a1)) GE3.out (j := 4) (v := .int .i64 0)) GE3.out (j := 5) (v := .slice An ([(⟨a2, a3, false, [], true, [1]⟩ : S34)] : List S34).length cn))
   clear hz0 hz1 hz2 hz3 hz4 hz5 hf0 hf1 hf2 hf3 hf4 hf5 HB5 HB6 HB7 BK5 BK6 BK7 HN6 HN7 HK5 HV5 BX5 BY
   generalize (((((w7.setCell ⟨g3, 0, none⟩ (.bool false)).setCell ⟨g3, 1, none⟩ (.bool true)).setCell ⟨g3, 2, none⟩ (.int .i64 a0)).setCell ⟨g3, 3, none⟩ (.int .i64 a1)).setCell ⟨g3, 4, none⟩ (.int .i64 0)).setCell ⟨g3, 5, none⟩ (.slice An ([(⟨a2, a3, false, [], true, [1]⟩ : S34)] : List S34).length cn) = w8 at HN8 BK8 BY8 HB8 ⊢
   have d0 : w8.cell? ⟨g3, 0, none⟩ = some (.bool false) := (zzk BY8.out 0).trans rfl
   have d1 : w8.cell? ⟨g3, 1, none⟩ = some (.bool true) := (zzk BY8.out 1).trans rfl
   have d2 : w8.cell? ⟨g3, 2, none⟩ = some (.int .i64 a0) := (zzk BY8.out 2).trans rfl
   have d3 : w8.cell? ⟨g3, 3, none⟩ = some (.int .i64 a1) := (zzk BY8.out 3).trans rfl
   have d4 : w8.cell? ⟨g3, 4, none⟩ = some (.int .i64 0) := (zzk BY8.out 4).trans rfl
   have d5 : w8.cell? ⟨g3, 5, none⟩ = some (.slice An ([(⟨a2, a3, false, [], true, [1]⟩ : S34)] : List S34).length cn) := (zzk BY8.out 5).trans rfl
   go_wp2_with (((with_reducible refine gate_callee (f := 55) rfl ?_); refine goesL_ (some 28) rfl rfl Try.func55 (by kernel_rfl) rfl #[.agg #[.bool false, .bool true, .int .i64 a0, .int .i64 a1, .int .i64 0, .slice An ([(⟨a2, a3, false, [], true, [1]⟩ : S34)] : List S34).length cn]] rfl (by (try simp only [List.map_toArray, List.map_cons, List.map_nil]); first | done | rfl) ?_; (with_reducible refine (spec_BatchValid.calls k false true a0 a1 0 _ _ ([(⟨a2, a3, false, [], true, [1]⟩ : S34)] : List S34) false _ ?s1 ?s2 A7.out).mono ?_); (case s1 => exact (Kd.N_reads' HN8.out).2.2); (case s2 => exact (Kd.N_reads' HN8.out).2.1); rintro e w9 ⟨rfl, hb⟩; refine ⟨_, rfl, ?_⟩; have HN9 := zzm (Kd.N_below HN8.out hb); have BK9 := zzm (zzh BK8.out hb); have BY9 := zzm (zzh BY8.out hb); have HB9 := zzm (zzp HB8.out hb); clear hb d0 d1 d2 d3 d4 d5; have hz0 : w9.cell? ⟨_, 0, none⟩ = some _ := (zzk BK9.out 0).trans rfl; have hf0 := zzl BK9.out 0; have hz1 : w9.cell? ⟨_, 1, none⟩ = some _ := (zzk BK9.out 1).trans rfl; have hf1 := zzl BK9.out 1; have hz2 : w9.cell? ⟨_, 2, none⟩ = some _ := (zzk BK9.out 2).trans rfl; have hf2 := zzl BK9.out 2; have hz3 : w9.cell? ⟨_, 3, none⟩ = some _ := (zzk BK9.out 3).trans rfl; have hf3 := zzl BK9.out 3; have hz4 : w9.cell? ⟨_, 4, none⟩ = some _ := (zzk BK9.out 4).trans rfl; have hf4 := zzl BK9.out 4; have hz5 : w9.cell? ⟨_, 5, none⟩ = some _ := (zzk BK9.out 5).trans rfl; have hf5 := zzl BK9.out 5; have d0 : w9.cell? ⟨g3, 0, none⟩ = some (.bool false) := (zzk BY9.out 0).trans rfl; have d1 : w9.cell? ⟨g3, 1, none⟩ = some (.bool true) := (zzk BY9.out 1).trans rfl; have d2 : w9.cell? ⟨g3, 2, none⟩ = some (.int .i64 a0) := (zzk BY9.out 2).trans rfl; have d3 : w9.cell? ⟨g3, 3, none⟩ = some (.int .i64 a1) := (zzk BY9.out 3).trans rfl; have d4 : w9.cell? ⟨g3, 4, none⟩ = some (.int .i64 0) := (zzk BY9.out 4).trans rfl; have d5 : w9.cell? ⟨g3, 5, none⟩ = some (.slice An ([(⟨a2, a3, false, [], true, [1]⟩ : S34)] : List S34).length cn) := (zzk BY9.out 5).trans rfl))
   refine bodyPost_ret (results_ct rfl _ _ g1 27 #[.bool false, .bool false, .int .i64 0, .int .i64 0, .int .i64 0, .slice none 0 0] (0, 0) _ rfl (zzi (cs := #[.bool false, .bool false, .int .i64 0, .int .i64 0, .int .i64 0, .slice none 0 0]) (cs' := #[.bool false, .bool false, .int .i64 0, .int .i64 0, .int .i64 0, .slice none 0 0]) (zzi (cs := #[.bool false, .bool false, .int .i64 0, .int .i64 0, .int .i64 0, .slice none 0 0]) (cs' := #[.bool false, .bool false, .int .i64 0, .int .i64 0, .int .i64 0, .slice none 0 0]) (zzi (cs := #[.bool false, .bool false, .int .i64 0, .int .i64 0, .int .i64 0, .slice none 0 0]) (cs' := #[.bool false, .bool false, .int .i64 0, .int .i64 0, .int .i64 0, .slice none 0 0]) (zzi (cs := #[.bool false, .bool false, .int .i64 0, .int .i64 0, .int .i64 0, .slice none 0 0]) (cs' := #[.bool false, .bool false, .int .i64 0, .int .i64 0, .int .i64 0, .slice none 0 0]) (zzi (cs := #[.bool false, .bool false, .int .i64 0, .int .i64 0, .int .i64 0, .slice none 0 0]) (cs' := #[.bool false, .bool false, .int .i64 0, .int .i64 0, .int .i64 0, .slice none 0 0]) (zzi (cs := #[.bool false, .bool false, .int .i64 0, .int .i64 0, .int .i64 0, .slice none 0 0]) (cs' := #[.bool false, .bool false, .int .i64 0, .int .i64 0, .int .i64 0, .slice none 0 0]) (BK9.out) 0 (.bool false) rfl) 1 (.bool false) rfl) 2 (.int .i64 0) rfl) 3 (.int .i64 0) rfl) 4 (.int .i64 0) rfl) 5 (.slice none 0 0) rfl) Try.underlying27 rfl (by kernel_rfl)) rfl ?_
   exact ⟨_, rfl, Kd.N_nil _ _ _ _ _, zzd (zzd (zzd (zzd (zzd (zzd (HB9.out) GE1.out (j := 0) (v := .bool false)) GE1.out (j := 1) (v := .bool false)) GE1.out (j := 2) (v := .int .i64 0)) GE1.out (j := 3) (v := .int .i64 0)) GE1.out (j := 4) (v := .int .i64 0)) GE1.out (j := 5) (v := .slice none 0 0)⟩
 | false =>
  cases t with
  | true =>
   simp only [if_true, Bool.false_eq_true, if_false, Option.some.injEq, Prod.mk.injEq] at h A7
   obtain ⟨rfl, rfl, rfl, rfl, rfl, rfl, rfl⟩ := h
   go_enter Try.func20, Try.ntmps20
   go_upto_region 5 with (first | ((with_reducible refine gate_dst (N := 10) rfl ?_); refine box_event ?hg (N := 10) ?hd (cs := #[.bool false, .bool false, .int .i64 0, .int .i64 0, .int .i64 0, .slice none 0 0]) (t := 27) ?hr ?_; (case hd => rfl); (case hg => rfl); (case hr => first | (go_simp; done) | (go_simp; rfl)); intro g1 hg w1 hbox hb; have HB1 := zzm (zzp HB.out hb); have BK1 := zzm hbox; have GE1 := zzm (show w.heap.size ≤ g1 by rw [hg]; exact HB.out.size); clear hb hbox hg) | ((with_reducible refine gate_dst (N := 18) rfl ?_); refine Kd.R_lit (Kd.int .i64) _ 3 ?hg (N := 18) ?hd (xs := ([] : List Int)) (inner := []) (ok := fun _ => True) (okp := fun _ => True) ?hr ?hp (fun _ hk => hk) trivial (Below.refl _ _) (Nat.le_refl _) (by simp) ?_; (case hd => rfl); (case hg => rfl); (case hr => first | (go_simp; done) | (go_simp; rfl)); (case hp => exact (Reps.none _ _)); intro v18 w2 ho hb hg_ hnew_; have HK2 := zzm (Kd.R_lower (Kd.R_mono (Kd.R_bound (Kd.R_newB ho BK1.out)) (fun k hk => (⟨Nat.le_trans HB1.out.size hk.2.1, hk.1.2⟩ : w.heap.size ≤ k ∧ k ≠ g1))) HB1.out.size); have HB2 := zzm (zzp HB1.out hb); have BK2 := zzm (zzh BK1.out hb); clear hg_ hnew_ ho hb; obtain ⟨Ak, ck, e_⟩ := Kd.R_slice HK2.out; subst e_) | ((with_reducible refine gate_dst (N := 20) rfl ?_); refine Kd.R_lit (Kd.int .i64) _ 3 ?hg (N := 20) ?hd (xs := ([0] : List Int)) (inner := [.int .i64 0]) (ok := fun _ => True) (okp := fun _ => True) ?hr ?hp (fun _ hk => hk) trivial (Below.refl _ _) (Nat.le_refl _) (by simp) ?_; (case hd => rfl); (case hg => rfl); (case hr => first | (go_simp; done) | (go_simp; rfl)); (case hp => exact (Reps.one (show Kd.M (Kd.int .i64) _ _ _ 0 [.int .i64 0] from rfl) (Reps.none _ _))); intro v20 w3 ho hb hg_ hnew_; have HV3 := zzm (Kd.R_lower (Kd.R_mono (Kd.R_bound (Kd.R_newB ho BK2.out)) (fun k hk => (⟨Nat.le_trans HB2.out.size hk.2.1, hk.1.2⟩ : w.heap.size ≤ k ∧ k ≠ g1))) HB2.out.size); have HB3 := zzm (zzp HB2.out hb); have BK3 := zzm (zzh BK2.out hb); have HK3 := zzm (Kd.R_below HK2.out hb); clear hg_ hnew_ ho hb; obtain ⟨Av, cv, e_⟩ := Kd.R_slice HV3.out; subst e_) | ((with_reducible refine gate_dst (N := 13) rfl ?_); refine box_event ?hg (N := 13) ?hd (cs := #[.int .i64 0, .int .i64 0, .bool false, .slice none 0 0, .bool false, .slice none 0 0]) (t := 34) ?hr ?_; (case hd => rfl); (case hg => rfl); (case hr => first | (go_simp; done) | (go_simp; rfl)); intro g2 hg w4 hbox hb; have HB4 := zzm (zzp HB3.out hb); have BK4 := zzm (zzh BK3.out hb); have HK4 := zzm (Kd.R_below HK3.out hb); have HV4 := zzm (Kd.R_below HV3.out hb); have BX := zzm hbox; have GE2 := zzm (show w.heap.size ≤ g2 by rw [hg]; exact HB3.out.size); have NE := zzm (show g1 ≠ g2 by rw [hg]; exact Nat.ne_of_lt (blk_lt BK3.out)); clear hb hbox hg; have hz0 : w4.cell? ⟨_, 0, none⟩ = some _ := (zzk BX.out 0).trans rfl; have hf0 := zzl BX.out 0; have hz1 : w4.cell? ⟨_, 1, none⟩ = some _ := (zzk BX.out 1).trans rfl; have hf1 := zzl BX.out 1; have hz2 : w4.cell? ⟨_, 2, none⟩ = some _ := (zzk BX.out 2).trans rfl; have hf2 := zzl BX.out 2; have hz3 : w4.cell? ⟨_, 3, none⟩ = some _ := (zzk BX.out 3).trans rfl; have hf3 := zzl BX.out 3; have hz4 : w4.cell? ⟨_, 4, none⟩ = some _ := (zzk BX.out 4).trans rfl; have hf4 := zzl BX.out 4; have hz5 : w4.cell? ⟨_, 5, none⟩ = some _ := (zzk BX.out 5).trans rfl; have hf5 := zzl BX.out 5))
   have HK5 := zzm (Kd.R_mono (Kd.R_far (p := ⟨g2, 5, none⟩) (Kd.R_far (p := ⟨g2, 4, none⟩) (Kd.R_far (p := ⟨g2, 3, none⟩) (Kd.R_far (p := ⟨g2, 2, none⟩) (Kd.R_far (p := ⟨g2, 1, none⟩) (Kd.R_far (p := ⟨g2, 0, none⟩) (Kd.R_types HK4.out BX.out (by decide)) (fun _ hk => hk.2) (.int .i64 a2)) (fun _ hk => hk.2) (.int .i64 a3)) (fun _ hk => hk.2) (.bool false)) (fun _ hk => hk.2) (.slice Ak ([] : List Int).length ck)) (fun _ hk => hk.2) (.bool true)) (fun _ hk => hk.2) (.slice Av ([0] : List Int).length cv)) (fun k hk => hk.1))
   have HV5 := zzm (Kd.R_mono (Kd.R_far (p := ⟨g2, 5, none⟩) (Kd.R_far (p := ⟨g2, 4, none⟩) (Kd.R_far (p := ⟨g2, 3, none⟩) (Kd.R_far (p := ⟨g2, 2, none⟩) (Kd.R_far (p := ⟨g2, 1, none⟩) (Kd.R_far (p := ⟨g2, 0, none⟩) (Kd.R_types HV4.out BX.out (by decide)) (fun _ hk => hk.2) (.int .i64 a2)) (fun _ hk => hk.2) (.int .i64 a3)) (fun _ hk => hk.2) (.bool false)) (fun _ hk => hk.2) (.slice Ak ([] : List Int).length ck)) (fun _ hk => hk.2) (.bool true)) (fun _ hk => hk.2) (.slice Av ([0] : List Int).length cv)) (fun k hk => hk.1))
   have BK5 := zzm (zzj (p := ⟨g2, 5, none⟩) (zzj (p := ⟨g2, 4, none⟩) (zzj (p := ⟨g2, 3, none⟩) (zzj (p := ⟨g2, 2, none⟩) (zzj (p := ⟨g2, 1, none⟩) (zzj (p := ⟨g2, 0, none⟩) (BK4.out) NE.out (.int .i64 a2)) NE.out (.int .i64 a3)) NE.out (.bool false)) NE.out (.slice Ak ([] : List Int).length ck)) NE.out (.bool true)) NE.out (.slice Av ([0] : List Int).length cv))
   have BX5 := zzm (zzi (cs := #[.int .i64 a2, .int .i64 a3, .bool false, .slice Ak ([] : List Int).length ck, .bool true, .slice none 0 0]) (cs' := #[.int .i64 a2, .int .i64 a3, .bool false, .slice Ak ([] : List Int).length ck, .bool true, .slice Av ([0] : List Int).length cv]) (zzi (cs := #[.int .i64 a2, .int .i64 a3, .bool false, .slice Ak ([] : List Int).length ck, .bool false, .slice none 0 0]) (cs' := #[.int .i64 a2, .int .i64 a3, .bool false, .slice Ak ([] : List Int).length ck, .bool true, .slice none 0 0]) (zzi (cs := #[.int .i64 a2, .int .i64 a3, .bool false, .slice none 0 0, .bool false, .slice none 0 0]) (cs' := #[.int .i64 a2, .int .i64 a3, .bool false, .slice Ak ([] : List Int).length ck, .bool false, .slice none 0 0]) (zzi (cs := #[.int .i64 a2, .int .i64 a3, .bool false, .slice none 0 0, .bool false, .slice none 0 0]) (cs' := #[.int .i64 a2, .int .i64 a3, .bool false, .slice none 0 0, .bool false, .slice none 0 0]) (zzi (cs := #[.int .i64 a2, .int .i64 0, .bool false, .slice none 0 0, .bool false, .slice none 0 0]) (cs' := #[.int .i64 a2, .int .i64 a3, .bool false, .slice none 0 0, .bool false, .slice none 0 0]) (zzi (cs := #[.int .i64 0, .int .i64 0, .bool false, .slice none 0 0, .bool false, .slice none 0 0]) (cs' := #[.int .i64 a2, .int .i64 0, .bool false, .slice none 0 0, .bool false, .slice none 0 0]) (BX.out) 0 (.int .i64 a2) rfl) 1 (.int .i64 a3) rfl) 2 (.bool false) rfl) 3 (.slice Ak ([] : List Int).length ck) rfl) 4 (.bool true) rfl) 5 (.slice Av ([0] : List Int).length cv) rfl)
   have HB5 := zzm (zzd (zzd (zzd (zzd (zzd (zzd (HB4.out) GE2.out (j := 0) (v := .int .i64 a2)) GE2.out (j := 1) (v := .int .i64 a3)) GE2.out (j := 2) (v := .bool false)) GE2.out (j := 3) (v := .slice Ak ([] : List Int).length ck)) GE2.out (j := 4) (v := .bool true)) GE2.out (j := 5) (v := .slice Av ([0] : List Int).length cv))
   clear hz0 hz1 hz2 hz3 hz4 hz5 hf0 hf1 hf2 hf3 hf4 hf5 HB1 HB2 HB3 HB4 BK1 BK2 BK3 BK4 HK2 HK3 HK4 HV3 HV4 BX
   generalize (((((w4.setCell ⟨g2, 0, none⟩ (.int .i64 a2)).setCell ⟨g2, 1, none⟩ (.int .i64 a3)).setCell ⟨g2, 2, none⟩ (.bool false)).setCell ⟨g2, 3, none⟩ (.slice Ak ([] : List Int).length ck)).setCell ⟨g2, 4, none⟩ (.bool true)).setCell ⟨g2, 5, none⟩ (.slice Av ([0] : List Int).length cv) = w5 at HK5 HV5 BK5 BX5 HB5 ⊢
   have d0 : w5.cell? ⟨g2, 0, none⟩ = some (.int .i64 a2) := (zzk BX5.out 0).trans rfl
   have d1 : w5.cell? ⟨g2, 1, none⟩ = some (.int .i64 a3) := (zzk BX5.out 1).trans rfl
   have d2 : w5.cell? ⟨g2, 2, none⟩ = some (.bool false) := (zzk BX5.out 2).trans rfl
   have d3 : w5.cell? ⟨g2, 3, none⟩ = some (.slice Ak ([] : List Int).length ck) := (zzk BX5.out 3).trans rfl
   have d4 : w5.cell? ⟨g2, 4, none⟩ = some (.bool true) := (zzk BX5.out 4).trans rfl
   have d5 : w5.cell? ⟨g2, 5, none⟩ = some (.slice Av ([0] : List Int).length cv) := (zzk BX5.out 5).trans rfl
   go_upto_region 6 with (first | ((with_reducible refine gate_dst (N := 25) rfl ?_); refine Kd.N_lit k34 _ 34 ?hg (N' := 25) ?hd (xs := ([(⟨a2, a3, false, [], true, [0]⟩ : S34)] : List (S34))) (inner := [.int .i64 a2, .int .i64 a3, .bool false, .slice Ak ([] : List Int).length ck, .bool true, .slice Av ([0] : List Int).length cv]) (ok := (fun k => w.heap.size ≤ k ∧ k ≠ g1)) (okp := (fun k => w.heap.size ≤ k ∧ k ≠ g1)) ?hr ?hp (fun _ hk => hk) ((show ∀ k, w5.heap.size ≤ k → (fun k => w.heap.size ≤ k ∧ k ≠ g1) k from fun k hk => ⟨Nat.le_trans HB5.out.size hk, fun e => by have := blk_lt BK5.out; omega⟩) _ (Nat.le_refl _)) (Below.refl _ _) (Nat.le_refl _) (by simp) ?_; (case hd => rfl); (case hg => rfl); (case hr => first | (go_simp; done) | (go_simp; rfl)); (case hp => exact (Reps.c6 (show Kd.FK k34 _ _ (⟨a2, a3, false, [], true, [0]⟩ : S34) [.int .i64 a2, .int .i64 a3, .bool false, .slice Ak ([] : List Int).length ck, .bool true, .slice Av ([0] : List Int).length cv] from (k34_mkF _ _ (⟨a2, a3, false, [], true, [0]⟩ : S34) (Kd.R_reads' HK5.out).2.1 (Kd.R_F HK5.out) (Kd.R_reads' HV5.out).2.1 (Kd.R_F HV5.out))) (Reps.none _ _))); intro v25 w6 ho hb hg_ hnew_; have HN6 := zzm (Kd.N_lower ho HB5.out.size); have HB6 := zzm (zzp HB5.out hb); have BK6 := zzm (zzh BK5.out hb); clear hg_ hnew_ ho hb; obtain ⟨An, cn, e_⟩ := Kd.N_slice HN6.out; subst e_) | ((with_reducible refine gate_dst (N := 14) rfl ?_); refine box_event ?hg (N := 14) ?hd (cs := #[.bool false, .bool false, .int .i64 0, .int .i64 0, .int .i64 0, .slice none 0 0]) (t := 27) ?hr ?_; (case hd => rfl); (case hg => rfl); (case hr => first | (go_simp; done) | (go_simp; rfl)); intro g3 hg w7 hbox hb; have HB7 := zzm (zzp HB6.out hb); have BK7 := zzm (zzh BK6.out hb); have HN7 := zzm (Kd.N_below (Kd.N_elderB HN6.out g3 (Nat.le_of_eq hg.symm)) hb); have BY := zzm hbox; have GE3 := zzm (show w.heap.size ≤ g3 by rw [hg]; exact HB6.out.size); have NE3 := zzm (show g1 ≠ g3 by rw [hg]; exact Nat.ne_of_lt (blk_lt BK6.out)); clear hb hbox hg d0 d1 d2 d3 d4 d5; have hz0 : w7.cell? ⟨_, 0, none⟩ = some _ := (zzk BY.out 0).trans rfl; have hf0 := zzl BY.out 0; have hz1 : w7.cell? ⟨_, 1, none⟩ = some _ := (zzk BY.out 1).trans rfl; have hf1 := zzl BY.out 1; have hz2 : w7.cell? ⟨_, 2, none⟩ = some _ := (zzk BY.out 2).trans rfl; have hf2 := zzl BY.out 2; have hz3 : w7.cell? ⟨_, 3, none⟩ = some _ := (zzk BY.out 3).trans rfl; have hf3 := zzl BY.out 3; have hz4 : w7.cell? ⟨_, 4, none⟩ = some _ := (zzk BY.out 4).trans rfl; have hf4 := zzl BY.out 4; have hz5 : w7.cell? ⟨_, 5, none⟩ = some _ := (zzk BY.out 5).trans rfl; have hf5 := zzl BY.out 5))
   have HN8 := zzm (Kd.N_far (p := ⟨g3, 5, none⟩) (Kd.N_far (p := ⟨g3, 4, none⟩) (Kd.N_far (p := ⟨g3, 3, none⟩) (Kd.N_far (p := ⟨g3, 2, none⟩) (Kd.N_far (p := ⟨g3, 1, none⟩) (Kd.N_far (p := ⟨g3, 0, none⟩) (HN7.out) (fun _ hk => hk.2) (.bool false)) (fun _ hk => hk.2) (.bool true)) (fun _ hk => hk.2) (.int .i64 a0)) (fun _ hk => hk.2) (.int .i64 a1)) (fun _ hk => hk.2) (.int .i64 0)) (fun _ hk => hk.2) (.slice An ([(⟨a2, a3, false, [], true, [0]⟩ : S34)] : List S34).length cn))
   have BK8 := zzm (zzj (p := ⟨g3, 5, none⟩) (zzj (p := ⟨g3, 4, none⟩) (zzj (p := ⟨g3, 3, none⟩) (zzj (p := ⟨g3, 2, none⟩) (zzj (p := ⟨g3, 1, none⟩) (zzj (p := ⟨g3, 0, none⟩) (BK7.out) NE3.out (.bool false)) NE3.out (.bool true)) NE3.out (.int .i64 a0)) NE3.out (.int .i64 a1)) NE3.out (.int .i64 0)) NE3.out (.slice An ([(⟨a2, a3, false, [], true, [0]⟩ : S34)] : List S34).length cn))
   have BY8 := zzm (zzi (cs := #[.bool false, .bool true, .int .i64 a0, .int .i64 a1, .int .i64 0, .slice none 0 0]) (cs' := #[.bool false, .bool true, .int .i64 a0, .int .i64 a1, .int .i64 0, .slice An ([(⟨a2, a3, false, [], true, [0]⟩ : S34)] : List S34).length cn]) (zzi (cs := #[.bool false, .bool true, .int .i64 a0, .int .i64 a1, .int .i64 0, .slice none 0 0]) (cs' := #[.bool false, .bool true, .int .i64 a0, .int .i64 a1, .int .i64 0, .slice none 0 0]) (zzi (cs := #[.bool false, .bool true, .int .i64 a0, .int .i64 0, .int .i64 0, .slice none 0 0]) (cs' := #[.bool false, .bool true, .int .i64 a0, .int .i64 a1, .int .i64 0, .slice none 0 0]) (zzi (cs := #[.bool false, .bool true, .int .i64 0, .int .i64 0, .int .i64 0, .slice none 0 0]) (cs' := #[.bool false, .bool true, .int .i64 a0, .int .i64 0, .int .i64 0, .slice none 0 0]) (zzi (cs := #[.bool false, .bool false, .int .i64 0, .int .i64 0, .int .i64 0, .slice none 0 0]) (cs' := #[.bool false, .bool true, .int .i64 0, .int .i64 0, .int .i64 0, .slice none 0 0]) (zzi (cs := #[.bool false, .bool false, .int .i64 0, .int .i64 0, .int .i64 0, .slice none 0 0]) (cs' := #[.bool false, .bool false, .int .i64 0, .int .i64 0, .int .i64 0, .slice none 0 0]) (BY.out) 0 (.bool false) rfl) 1 (.bool true) rfl) 2 (.int .i64 a0) rfl) 3 (.int .i64 a1) rfl) 4 (.int .i64 0) rfl) 5 (.slice An ([(⟨a2, a3, false, [], true, [0]⟩ : S34)] : List S34).length cn) rfl)
   have HB8 := zzm (zzd (zzd (zzd (zzd (zzd (zzd (HB7.out) GE3.out (j := 0) (v := .bool false)) GE3.out (j := 1) (v := .bool true)) GE3.out (j := 2) (v := .int .i64 a0)) GE3.out (j := 3) (v := .int .i64 a1)) GE3.out (j := 4) (v := .int .i64 0)) GE3.out (j := 5) (v := .slice An ([(⟨a2, a3, false, [], true, [0]⟩ : S34)] : List S34).length cn))
   clear hz0 hz1 hz2 hz3 hz4 hz5 hf0 hf1 hf2 hf3 hf4 hf5 HB5 HB6 HB7 BK5 BK6 BK7 HN6 HN7 HK5 HV5 BX5 BY
   generalize (((((w7.setCell ⟨g3, 0, none⟩ (.bool false)).setCell ⟨g3, 1, none⟩ (.bool true)).setCell ⟨g3, 2, none⟩ (.int .i64 a0)).setCell ⟨g3, 3, none⟩ (.int .i64 a1)).setCell ⟨g3, 4, none⟩ (.int .i64 0)).setCell ⟨g3, 5, none⟩ (.slice An ([(⟨a2, a3, false, [], true, [0]⟩ : S34)] : List S34).length cn) = w8 at HN8 BK8 BY8 HB8 ⊢
   have d0 : w8.cell? ⟨g3, 0, none⟩ = some (.bool false) := (zzk BY8.out 0).trans rfl
   have d1 : w8.cell? ⟨g3, 1, none⟩ = some (.bool true) := (zzk BY8.out 1).trans rfl
   have d2 : w8.cell? ⟨g3, 2, none⟩ = some (.int .i64 a0) := (zzk BY8.out 2).trans rfl
   have d3 : w8.cell? ⟨g3, 3, none⟩ = some (.int .i64 a1) := (zzk BY8.out 3).trans rfl
   have d4 : w8.cell? ⟨g3, 4, none⟩ = some (.int .i64 0) := (zzk BY8.out 4).trans rfl
   have d5 : w8.cell? ⟨g3, 5, none⟩ = some (.slice An ([(⟨a2, a3, false, [], true, [0]⟩ : S34)] : List S34).length cn) := (zzk BY8.out 5).trans rfl
   go_wp2_with (((with_reducible refine gate_callee (f := 55) rfl ?_); refine goesL_ (some 28) rfl rfl Try.func55 (by kernel_rfl) rfl #[.agg #[.bool false, .bool true, .int .i64 a0, .int .i64 a1, .int .i64 0, .slice An ([(⟨a2, a3, false, [], true, [0]⟩ : S34)] : List S34).length cn]] rfl (by (try simp only [List.map_toArray, List.map_cons, List.map_nil]); first | done | rfl) ?_; (with_reducible refine (spec_BatchValid.calls k false true a0 a1 0 _ _ ([(⟨a2, a3, false, [], true, [0]⟩ : S34)] : List S34) true _ ?s1 ?s2 A7.out).mono ?_); (case s1 => exact (Kd.N_reads' HN8.out).2.2); (case s2 => exact (Kd.N_reads' HN8.out).2.1); rintro e w9 ⟨rfl, hb⟩; refine ⟨_, rfl, ?_⟩; have HN9 := zzm (Kd.N_below HN8.out hb); have BK9 := zzm (zzh BK8.out hb); have BY9 := zzm (zzh BY8.out hb); have HB9 := zzm (zzp HB8.out hb); clear hb d0 d1 d2 d3 d4 d5; have hz0 : w9.cell? ⟨_, 0, none⟩ = some _ := (zzk BK9.out 0).trans rfl; have hf0 := zzl BK9.out 0; have hz1 : w9.cell? ⟨_, 1, none⟩ = some _ := (zzk BK9.out 1).trans rfl; have hf1 := zzl BK9.out 1; have hz2 : w9.cell? ⟨_, 2, none⟩ = some _ := (zzk BK9.out 2).trans rfl; have hf2 := zzl BK9.out 2; have hz3 : w9.cell? ⟨_, 3, none⟩ = some _ := (zzk BK9.out 3).trans rfl; have hf3 := zzl BK9.out 3; have hz4 : w9.cell? ⟨_, 4, none⟩ = some _ := (zzk BK9.out 4).trans rfl; have hf4 := zzl BK9.out 4; have hz5 : w9.cell? ⟨_, 5, none⟩ = some _ := (zzk BK9.out 5).trans rfl; have hf5 := zzl BK9.out 5; have d0 : w9.cell? ⟨g3, 0, none⟩ = some (.bool false) := (zzk BY9.out 0).trans rfl; have d1 : w9.cell? ⟨g3, 1, none⟩ = some (.bool true) := (zzk BY9.out 1).trans rfl; have d2 : w9.cell? ⟨g3, 2, none⟩ = some (.int .i64 a0) := (zzk BY9.out 2).trans rfl; have d3 : w9.cell? ⟨g3, 3, none⟩ = some (.int .i64 a1) := (zzk BY9.out 3).trans rfl; have d4 : w9.cell? ⟨g3, 4, none⟩ = some (.int .i64 0) := (zzk BY9.out 4).trans rfl; have d5 : w9.cell? ⟨g3, 5, none⟩ = some (.slice An ([(⟨a2, a3, false, [], true, [0]⟩ : S34)] : List S34).length cn) := (zzk BY9.out 5).trans rfl))
   refine bodyPost_ret (results_ct rfl _ _ g1 27 #[.bool false, .bool true, .int .i64 a0, .int .i64 a1, .int .i64 0, .slice An ([(⟨a2, a3, false, [], true, [0]⟩ : S34)] : List S34).length cn] (0, 0) _ rfl (zzi (cs := #[.bool false, .bool true, .int .i64 a0, .int .i64 a1, .int .i64 0, .slice none 0 0]) (cs' := #[.bool false, .bool true, .int .i64 a0, .int .i64 a1, .int .i64 0, .slice An ([(⟨a2, a3, false, [], true, [0]⟩ : S34)] : List S34).length cn]) (zzi (cs := #[.bool false, .bool true, .int .i64 a0, .int .i64 a1, .int .i64 0, .slice none 0 0]) (cs' := #[.bool false, .bool true, .int .i64 a0, .int .i64 a1, .int .i64 0, .slice none 0 0]) (zzi (cs := #[.bool false, .bool true, .int .i64 a0, .int .i64 0, .int .i64 0, .slice none 0 0]) (cs' := #[.bool false, .bool true, .int .i64 a0, .int .i64 a1, .int .i64 0, .slice none 0 0]) (zzi (cs := #[.bool false, .bool true, .int .i64 0, .int .i64 0, .int .i64 0, .slice none 0 0]) (cs' := #[.bool false, .bool true, .int .i64 a0, .int .i64 0, .int .i64 0, .slice none 0 0]) (zzi (cs := #[.bool false, .bool false, .int .i64 0, .int .i64 0, .int .i64 0, .slice none 0 0]) (cs' := #[.bool false, .bool true, .int .i64 0, .int .i64 0, .int .i64 0, .slice none 0 0]) (zzi (cs := #[.bool false, .bool false, .int .i64 0, .int .i64 0, .int .i64 0, .slice none 0 0]) (cs' := #[.bool false, .bool false, .int .i64 0, .int .i64 0, .int .i64 0, .slice none 0 0]) (BK9.out) 0 (.bool false) rfl) 1 (.bool true) rfl) 2 (.int .i64 a0) rfl) 3 (.int .i64 a1) rfl) 4 (.int .i64 0) rfl) 5 (.slice An ([(⟨a2, a3, false, [], true, [0]⟩ : S34)] : List S34).length cn) rfl) Try.underlying27 rfl (by kernel_rfl)) rfl ?_
   exact ⟨_, rfl, Kd.N_mono (Kd.N_far (p := ⟨g1, 5, none⟩) (Kd.N_far (p := ⟨g1, 4, none⟩) (Kd.N_far (p := ⟨g1, 3, none⟩) (Kd.N_far (p := ⟨g1, 2, none⟩) (Kd.N_far (p := ⟨g1, 1, none⟩) (Kd.N_far (p := ⟨g1, 0, none⟩) (Kd.N_mono HN9.out (fun k hk => (⟨hk.1.1, hk.1.2⟩ : _ ∧ k ≠ g1))) (fun _ hk => hk.2) (.bool false)) (fun _ hk => hk.2) (.bool true)) (fun _ hk => hk.2) (.int .i64 a0)) (fun _ hk => hk.2) (.int .i64 a1)) (fun _ hk => hk.2) (.int .i64 0)) (fun _ hk => hk.2) (.slice An ([(⟨a2, a3, false, [], true, [0]⟩ : S34)] : List S34).length cn)) (fun _ hk => hk.1), zzd (zzd (zzd (zzd (zzd (zzd (HB9.out) GE1.out (j := 0) (v := .bool false)) GE1.out (j := 1) (v := .bool true)) GE1.out (j := 2) (v := .int .i64 a0)) GE1.out (j := 3) (v := .int .i64 a1)) GE1.out (j := 4) (v := .int .i64 0)) GE1.out (j := 5) (v := .slice An ([(⟨a2, a3, false, [], true, [0]⟩ : S34)] : List S34).length cn)⟩
  | false =>
   simp only [if_true, Bool.false_eq_true, if_false, Option.some.injEq, Prod.mk.injEq] at h A7
   obtain ⟨rfl, rfl, rfl, rfl, rfl, rfl, rfl⟩ := h
   go_enter Try.func20, Try.ntmps20
   go_upto_region 5 with (first | ((with_reducible refine gate_dst (N := 10) rfl ?_); refine box_event ?hg (N := 10) ?hd (cs := #[.bool false, .bool false, .int .i64 0, .int .i64 0, .int .i64 0, .slice none 0 0]) (t := 27) ?hr ?_; (case hd => rfl); (case hg => rfl); (case hr => first | (go_simp; done) | (go_simp; rfl)); intro g1 hg w1 hbox hb; have HB1 := zzm (zzp HB.out hb); have BK1 := zzm hbox; have GE1 := zzm (show w.heap.size ≤ g1 by rw [hg]; exact HB.out.size); clear hb hbox hg) | ((with_reducible refine gate_dst (N := 18) rfl ?_); refine Kd.R_lit (Kd.int .i64) _ 3 ?hg (N := 18) ?hd (xs := ([] : List Int)) (inner := []) (ok := fun _ => True) (okp := fun _ => True) ?hr ?hp (fun _ hk => hk) trivial (Below.refl _ _) (Nat.le_refl _) (by simp) ?_; (case hd => rfl); (case hg => rfl); (case hr => first | (go_simp; done) | (go_simp; rfl)); (case hp => exact (Reps.none _ _)); intro v18 w2 ho hb hg_ hnew_; have HK2 := zzm (Kd.R_lower (Kd.R_mono (Kd.R_bound (Kd.R_newB ho BK1.out)) (fun k hk => (⟨Nat.le_trans HB1.out.size hk.2.1, hk.1.2⟩ : w.heap.size ≤ k ∧ k ≠ g1))) HB1.out.size); have HB2 := zzm (zzp HB1.out hb); have BK2 := zzm (zzh BK1.out hb); clear hg_ hnew_ ho hb; obtain ⟨Ak, ck, e_⟩ := Kd.R_slice HK2.out; subst e_) | ((with_reducible refine gate_dst (N := 20) rfl ?_); refine Kd.R_lit (Kd.int .i64) _ 3 ?hg (N := 20) ?hd (xs := ([0] : List Int)) (inner := [.int .i64 0]) (ok := fun _ => True) (okp := fun _ => True) ?hr ?hp (fun _ hk => hk) trivial (Below.refl _ _) (Nat.le_refl _) (by simp) ?_; (case hd => rfl); (case hg => rfl); (case hr => first | (go_simp; done) | (go_simp; rfl)); (case hp => exact (Reps.one (show Kd.M (Kd.int .i64) _ _ _ 0 [.int .i64 0] from rfl) (Reps.none _ _))); intro v20 w3 ho hb hg_ hnew_; have HV3 := zzm (Kd.R_lower (Kd.R_mono (Kd.R_bound (Kd.R_newB ho BK2.out)) (fun k hk => (⟨Nat.le_trans HB2.out.size hk.2.1, hk.1.2⟩ : w.heap.size ≤ k ∧ k ≠ g1))) HB2.out.size); have HB3 := zzm (zzp HB2.out hb); have BK3 := zzm (zzh BK2.out hb); have HK3 := zzm (Kd.R_below HK2.out hb); clear hg_ hnew_ ho hb; obtain ⟨Av, cv, e_⟩ := Kd.R_slice HV3.out; subst e_) | ((with_reducible refine gate_dst (N := 13) rfl ?_); refine box_event ?hg (N := 13) ?hd (cs := #[.int .i64 0, .int .i64 0, .bool false, .slice none 0 0, .bool false, .slice none 0 0]) (t := 34) ?hr ?_; (case hd => rfl); (case hg => rfl); (case hr => first | (go_simp; done) | (go_simp; rfl)); intro g2 hg w4 hbox hb; have HB4 := zzm (zzp HB3.out hb); have BK4 := zzm (zzh BK3.out hb); have HK4 := zzm (Kd.R_below HK3.out hb); have HV4 := zzm (Kd.R_below HV3.out hb); have BX := zzm hbox; have GE2 := zzm (show w.heap.size ≤ g2 by rw [hg]; exact HB3.out.size); have NE := zzm (show g1 ≠ g2 by rw [hg]; exact Nat.ne_of_lt (blk_lt BK3.out)); clear hb hbox hg; have hz0 : w4.cell? ⟨_, 0, none⟩ = some _ := (zzk BX.out 0).trans rfl; have hf0 := zzl BX.out 0; have hz1 : w4.cell? ⟨_, 1, none⟩ = some _ := (zzk BX.out 1).trans rfl; have hf1 := zzl BX.out 1; have hz2 : w4.cell? ⟨_, 2, none⟩ = some _ := (zzk BX.out 2).trans rfl; have hf2 := zzl BX.out 2; have hz3 : w4.cell? ⟨_, 3, none⟩ = some _ := (zzk BX.out 3).trans rfl; have hf3 := zzl BX.out 3; have hz4 : w4.cell? ⟨_, 4, none⟩ = some _ := (zzk BX.out 4).trans rfl; have hf4 := zzl BX.out 4; have hz5 : w4.cell? ⟨_, 5, none⟩ = some _ := (zzk BX.out 5).trans rfl; have hf5 := zzl BX.out 5))
   have HK5 := zzm (Kd.R_mono (Kd.R_far (p := ⟨g2, 5, none⟩) (Kd.R_far (p := ⟨g2, 4, none⟩) (Kd.R_far (p := ⟨g2, 3, none⟩) (Kd.R_far (p := ⟨g2, 2, none⟩) (Kd.R_far (p := ⟨g2, 1, none⟩) (Kd.R_far (p := ⟨g2, 0, none⟩) (Kd.R_types HK4.out BX.out (by decide)) (fun _ hk => hk.2) (.int .i64 a2)) (fun _ hk => hk.2) (.int .i64 a3)) (fun _ hk => hk.2) (.bool false)) (fun _ hk => hk.2) (.slice Ak ([] : List Int).length ck)) (fun _ hk => hk.2) (.bool true)) (fun _ hk => hk.2) (.slice Av ([0] : List Int).length cv)) (fun k hk => hk.1))
   have HV5 := zzm (Kd.R_mono (Kd.R_far (p := ⟨g2, 5, none⟩) (Kd.R_far (p := ⟨g2, 4, none⟩) (Kd.R_far (p := ⟨g2, 3, none⟩) (Kd.R_far (p := ⟨g2, 2, none⟩) (Kd.R_far (p := ⟨g2, 1, none⟩) (Kd.R_far (p := ⟨g2, 0, none⟩) (Kd.R_types HV4.out BX.out (by decide)) (fun _ hk => hk.2) (.int .i64 a2)) (fun _ hk => hk.2) (.int .i64 a3)) (fun _ hk => hk.2) (.bool false)) (fun _ hk => hk.2) (.slice Ak ([] : List Int).length ck)) (fun _ hk => hk.2) (.bool true)) (fun _ hk => hk.2) (.slice Av ([0] : List Int).length cv)) (fun k hk => hk.1))
   have BK5 := zzm (zzj (p := ⟨g2, 5, none⟩) (zzj (p := ⟨g2, 4, none⟩) (zzj (p := ⟨g2, 3, none⟩) (zzj (p := ⟨g2, 2, none⟩) (zzj (p := ⟨g2, 1, none⟩) (zzj (p := ⟨g2, 0, none⟩) (BK4.out) NE.out (.int .i64 a2)) NE.out (.int .i64 a3)) NE.out (.bool false)) NE.out (.slice Ak ([] : List Int).length ck)) NE.out (.bool true)) NE.out (.slice Av ([0] : List Int).length cv))
   have BX5 := zzm (zzi (cs := #[.int .i64 a2, .int .i64 a3, .bool false, .slice Ak ([] : List Int).length ck, .bool true, .slice none 0 0]) (cs' := #[.int .i64 a2, .int .i64 a3, .bool false, .slice Ak ([] : List Int).length ck, .bool true, .slice Av ([0] : List Int).length cv]) (zzi (cs := #[.int .i64 a2, .int .i64 a3, .bool false, .slice Ak ([] : List Int).length ck, .bool false, .slice none 0 0]) (cs' := #[.int .i64 a2, .int .i64 a3, .bool false, .slice Ak ([] : List Int).length ck, .bool true, .slice none 0 0]) (zzi (cs := #[.int .i64 a2, .int .i64 a3, .bool false, .slice none 0 0, .bool false, .slice none 0 0]) (cs' := #[.int .i64 a2, .int .i64 a3, .bool false, .slice Ak ([] : List Int).length ck, .bool false, .slice none 0 0]) (zzi (cs := #[.int .i64 a2, .int .i64 a3, .bool false, .slice none 0 0, .bool false, .slice none 0 0]) (cs' := #[.int .i64 a2, .int .i64 a3, .bool false, .slice none 0 0, .bool false, .slice none 0 0]) (zzi (cs := #[.int .i64 a2, .int .i64 0, .bool false, .slice none 0 0, .bool false, .slice none 0 0]) (cs' := #[.int .i64 a2, .int .i64 a3, .bool false, .slice none 0 0, .bool false, .slice none 0 0]) (zzi (cs := #[.int .i64 0, .int .i64 0, .bool false, .slice none 0 0, .bool false, .slice none 0 0]) (cs' := #[.int .i64 a2, .int .i64 0, .bool false, .slice none 0 0, .bool false, .slice none 0 0]) (BX.out) 0 (.int .i64 a2) rfl) 1 (.int .i64 a3) rfl) 2 (.bool false) rfl) 3 (.slice Ak ([] : List Int).length ck) rfl) 4 (.bool true) rfl) 5 (.slice Av ([0] : List Int).length cv) rfl)
   have HB5 := zzm (zzd (zzd (zzd (zzd (zzd (zzd (HB4.out) GE2.out (j := 0) (v := .int .i64 a2)) GE2.out (j := 1) (v := .int .i64 a3)) GE2.out (j := 2) (v := .bool false)) GE2.out (j := 3) (v := .slice Ak ([] : List Int).length ck)) GE2.out (j := 4) (v := .bool true)) GE2.out (j := 5) (v := .slice Av ([0] : List Int).length cv))
   clear hz0 hz1 hz2 hz3 hz4 hz5 hf0 hf1 hf2 hf3 hf4 hf5 HB1 HB2 HB3 HB4 BK1 BK2 BK3 BK4 HK2 HK3 HK4 HV3 HV4 BX
   generalize (((((w4.setCell ⟨g2, 0, none⟩ (.int .i64 a2)).setCell ⟨g2, 1, none⟩ (.int .i64 a3)).setCell ⟨g2, 2, none⟩ (.bool false)).setCell ⟨g2, 3, none⟩ (.slice Ak ([] : List Int).length ck)).setCell ⟨g2, 4, none⟩ (.bool true)).setCell ⟨g2, 5, none⟩ (.slice Av ([0] : List Int).length cv) = w5 at HK5 HV5 BK5 BX5 HB5 ⊢
   have d0 : w5.cell? ⟨g2, 0, none⟩ = some (.int .i64 a2) := (zzk BX5.out 0).trans rfl
   have d1 : w5.cell? ⟨g2, 1, none⟩ = some (.int .i64 a3) := (zzk BX5.out 1).trans rfl
   have d2 : w5.cell? ⟨g2, 2, none⟩ = some (.bool false) := (zzk BX5.out 2).trans rfl
   have d3 : w5.cell? ⟨g2, 3, none⟩ = some (.slice Ak ([] : List Int).length ck) := (zzk BX5.out 3).trans rfl
   have d4 : w5.cell? ⟨g2, 4, none⟩ = some (.bool true) := (zzk BX5.out 4).trans rfl
   have d5 : w5.cell? ⟨g2, 5, none⟩ = some (.slice Av ([0] : List Int).length cv) := (zzk BX5.out 5).trans rfl
   go_upto_region 6 with (first | ((with_reducible refine gate_dst (N := 25) rfl ?_); refine Kd.N_lit k34 _ 34 ?hg (N' := 25) ?hd (xs := ([(⟨a2, a3, false, [], true, [0]⟩ : S34)] : List (S34))) (inner := [.int .i64 a2, .int .i64 a3, .bool false, .slice Ak ([] : List Int).length ck, .bool true, .slice Av ([0] : List Int).length cv]) (ok := (fun k => w.heap.size ≤ k ∧ k ≠ g1)) (okp := (fun k => w.heap.size ≤ k ∧ k ≠ g1)) ?hr ?hp (fun _ hk => hk) ((show ∀ k, w5.heap.size ≤ k → (fun k => w.heap.size ≤ k ∧ k ≠ g1) k from fun k hk => ⟨Nat.le_trans HB5.out.size hk, fun e => by have := blk_lt BK5.out; omega⟩) _ (Nat.le_refl _)) (Below.refl _ _) (Nat.le_refl _) (by simp) ?_; (case hd => rfl); (case hg => rfl); (case hr => first | (go_simp; done) | (go_simp; rfl)); (case hp => exact (Reps.c6 (show Kd.FK k34 _ _ (⟨a2, a3, false, [], true, [0]⟩ : S34) [.int .i64 a2, .int .i64 a3, .bool false, .slice Ak ([] : List Int).length ck, .bool true, .slice Av ([0] : List Int).length cv] from (k34_mkF _ _ (⟨a2, a3, false, [], true, [0]⟩ : S34) (Kd.R_reads' HK5.out).2.1 (Kd.R_F HK5.out) (Kd.R_reads' HV5.out).2.1 (Kd.R_F HV5.out))) (Reps.none _ _))); intro v25 w6 ho hb hg_ hnew_; have HN6 := zzm (Kd.N_lower ho HB5.out.size); have HB6 := zzm (zzp HB5.out hb); have BK6 := zzm (zzh BK5.out hb); clear hg_ hnew_ ho hb; obtain ⟨An, cn, e_⟩ := Kd.N_slice HN6.out; subst e_) | ((with_reducible refine gate_dst (N := 14) rfl ?_); refine box_event ?hg (N := 14) ?hd (cs := #[.bool false, .bool false, .int .i64 0, .int .i64 0, .int .i64 0, .slice none 0 0]) (t := 27) ?hr ?_; (case hd => rfl); (case hg => rfl); (case hr => first | (go_simp; done) | (go_simp; rfl)); intro g3 hg w7 hbox hb; have HB7 := zzm (zzp HB6.out hb); have BK7 := zzm (zzh BK6.out hb); have HN7 := zzm (Kd.N_below (Kd.N_elderB HN6.out g3 (Nat.le_of_eq hg.symm)) hb); have BY := zzm hbox; have GE3 := zzm (show w.heap.size ≤ g3 by rw [hg]; exact HB6.out.size); have NE3 := zzm (show g1 ≠ g3 by rw [hg]; exact Nat.ne_of_lt (blk_lt BK6.out)); clear hb hbox hg d0 d1 d2 d3 d4 d5; have hz0 : w7.cell? ⟨_, 0, none⟩ = some _ := (zzk BY.out 0).trans rfl; have hf0 := zzl BY.out 0; have hz1 : w7.cell? ⟨_, 1, none⟩ = some _ := (zzk BY.out 1).trans rfl; have hf1 := zzl BY.out 1; have hz2 : w7.cell? ⟨_, 2, none⟩ = some _ := (zzk BY.out 2).trans rfl; have hf2 := zzl BY.out 2; have hz3 : w7.cell? ⟨_, 3, none⟩ = some _ := (zzk BY.out 3).trans rfl; have hf3 := zzl BY.out 3; have hz4 : w7.cell? ⟨_, 4, none⟩ = some _ := (zzk BY.out 4).trans rfl; have hf4 := zzl BY.out 4; have hz5 : w7.cell? ⟨_, 5, none⟩ = some _ := (zzk BY.out 5).trans rfl; have hf5 := zzl BY.out 5))
   have HN8 := zzm (Kd.N_far (p := ⟨g3, 5, none⟩) (Kd.N_far (p := ⟨g3, 4, none⟩) (Kd.N_far (p := ⟨g3, 3, none⟩) (Kd.N_far (p := ⟨g3, 2, none⟩) (Kd.N_far (p := ⟨g3, 1, none⟩) (Kd.N_far (p := ⟨g3, 0, none⟩) (HN7.out) (fun _ hk => hk.2) (.bool false)) (fun _ hk => hk.2) (.bool true)) (fun _ hk => hk.2) (.int .i64 a0)) (fun _ hk => hk.2) (.int .i64 a1)) (fun _ hk => hk.2) (.int .i64 0)) (fun _ hk => hk.2) (.slice An ([(⟨a2, a3, false, [], true, [0]⟩ : S34)] : List S34).length cn))
   have BK8 := zzm (zzj (p := ⟨g3, 5, none⟩) (zzj (p := ⟨g3, 4, none⟩) (zzj (p := ⟨g3, 3, none⟩) (zzj (p := ⟨g3, 2, none⟩) (zzj (p := ⟨g3, 1, none⟩) (zzj (p := ⟨g3, 0, none⟩) (BK7.out) NE3.out (.bool false)) NE3.out (.bool true)) NE3.out (.int .i64 a0)) NE3.out (.int .i64 a1)) NE3.out (.int .i64 0)) NE3.out (.slice An ([(⟨a2, a3, false, [], true, [0]⟩ : S34)] : List S34).length cn))
   have BY8 := zzm (zzi (cs := #[.bool false, .bool true, .int .i64 a0, .int .i64 a1, .int .i64 0, .slice none 0 0]) (cs' := #[.bool false, .bool true, .int .i64 a0, .int .i64 a1, .int .i64 0, .slice An ([(⟨a2, a3, false, [], true, [0]⟩ : S34)] : List S34).length cn]) (zzi (cs := #[.bool false, .bool true, .int .i64 a0, .int .i64 a1, .int .i64 0, .slice none 0 0]) (cs' := #[.bool false, .bool true, .int .i64 a0, .int .i64 a1, .int .i64 0, .slice none 0 0]) (zzi (cs := #[.bool false, .bool true, .int .i64 a0, .int .i64 0, .int .i64 0, .slice none 0 0]) (cs' := #[.bool false, .bool true, .int .i64 a0, .int .i64 a1, .int .i64 0, .slice none 0 0]) (zzi (cs := #[.bool false, .bool true, .int .i64 0, .int .i64 0, .int .i64 0, .slice none 0 0]) (cs' := #[.bool false, .bool true, .int .i64 a0, .int .i64 0, .int .i64 0, .slice none 0 0]) (zzi (cs := #[.bool false, .bool false, .int .i64 0, .int .i64 0, .int .i64 0, .slice none 0 0]) (cs' := #[.bool false, .bool true, .int .i64 0, .int .i64 0, .int .i64 0, .slice none 0 0]) (zzi (cs := #[.bool false, .bool false, .int .i64 0, .int .i64 0, .int .i64 0, .slice none 0 0]) (cs' := #[.bool false, .bool false, .int .i64 0, .int .i64 0, .int .i64 0, .slice none 0 0]) (BY.out) 0 (.bool false) rfl) 1 (.bool true) rfl) 2 (.int .i64 a0) rfl) 3 (.int .i64 a1) rfl) 4 (.int .i64 0) rfl) 5 (.slice An ([(⟨a2, a3, false, [], true, [0]⟩ : S34)] : List S34).length cn) rfl)
   have HB8 := zzm (zzd (zzd (zzd (zzd (zzd (zzd (HB7.out) GE3.out (j := 0) (v := .bool false)) GE3.out (j := 1) (v := .bool true)) GE3.out (j := 2) (v := .int .i64 a0)) GE3.out (j := 3) (v := .int .i64 a1)) GE3.out (j := 4) (v := .int .i64 0)) GE3.out (j := 5) (v := .slice An ([(⟨a2, a3, false, [], true, [0]⟩ : S34)] : List S34).length cn))
   clear hz0 hz1 hz2 hz3 hz4 hz5 hf0 hf1 hf2 hf3 hf4 hf5 HB5 HB6 HB7 BK5 BK6 BK7 HN6 HN7 HK5 HV5 BX5 BY
   generalize (((((w7.setCell ⟨g3, 0, none⟩ (.bool false)).setCell ⟨g3, 1, none⟩ (.bool true)).setCell ⟨g3, 2, none⟩ (.int .i64 a0)).setCell ⟨g3, 3, none⟩ (.int .i64 a1)).setCell ⟨g3, 4, none⟩ (.int .i64 0)).setCell ⟨g3, 5, none⟩ (.slice An ([(⟨a2, a3, false, [], true, [0]⟩ : S34)] : List S34).length cn) = w8 at HN8 BK8 BY8 HB8 ⊢
   have d0 : w8.cell? ⟨g3, 0, none⟩ = some (.bool false) := (zzk BY8.out 0).trans rfl
   have d1 : w8.cell? ⟨g3, 1, none⟩ = some (.bool true) := (zzk BY8.out 1).trans rfl
   have d2 : w8.cell? ⟨g3, 2, none⟩ = some (.int .i64 a0) := (zzk BY8.out 2).trans rfl
   have d3 : w8.cell? ⟨g3, 3, none⟩ = some (.int .i64 a1) := (zzk BY8.out 3).trans rfl
   have d4 : w8.cell? ⟨g3, 4, none⟩ = some (.int .i64 0) := (zzk BY8.out 4).trans rfl
   have d5 : w8.cell? ⟨g3, 5, none⟩ = some (.slice An ([(⟨a2, a3, false, [], true, [0]⟩ : S34)] : List S34).length cn) := (zzk BY8.out 5).trans rfl
   go_wp2_with (((with_reducible refine gate_callee (f := 55) rfl ?_); refine goesL_ (some 28) rfl rfl Try.func55 (by kernel_rfl) rfl #[.agg #[.bool false, .bool true, .int .i64 a0, .int .i64 a1, .int .i64 0, .slice An ([(⟨a2, a3, false, [], true, [0]⟩ : S34)] : List S34).length cn]] rfl (by (try simp only [List.map_toArray, List.map_cons, List.map_nil]); first | done | rfl) ?_; (with_reducible refine (spec_BatchValid.calls k false true a0 a1 0 _ _ ([(⟨a2, a3, false, [], true, [0]⟩ : S34)] : List S34) false _ ?s1 ?s2 A7.out).mono ?_); (case s1 => exact (Kd.N_reads' HN8.out).2.2); (case s2 => exact (Kd.N_reads' HN8.out).2.1); rintro e w9 ⟨rfl, hb⟩; refine ⟨_, rfl, ?_⟩; have HN9 := zzm (Kd.N_below HN8.out hb); have BK9 := zzm (zzh BK8.out hb); have BY9 := zzm (zzh BY8.out hb); have HB9 := zzm (zzp HB8.out hb); clear hb d0 d1 d2 d3 d4 d5; have hz0 : w9.cell? ⟨_, 0, none⟩ = some _ := (zzk BK9.out 0).trans rfl; have hf0 := zzl BK9.out 0; have hz1 : w9.cell? ⟨_, 1, none⟩ = some _ := (zzk BK9.out 1).trans rfl; have hf1 := zzl BK9.out 1; have hz2 : w9.cell? ⟨_, 2, none⟩ = some _ := (zzk BK9.out 2).trans rfl; have hf2 := zzl BK9.out 2; have hz3 : w9.cell? ⟨_, 3, none⟩ = some _ := (zzk BK9.out 3).trans rfl; have hf3 := zzl BK9.out 3; have hz4 : w9.cell? ⟨_, 4, none⟩ = some _ := (zzk BK9.out 4).trans rfl; have hf4 := zzl BK9.out 4; have hz5 : w9.cell? ⟨_, 5, none⟩ = some _ := (zzk BK9.out 5).trans rfl; have hf5 := zzl BK9.out 5; have d0 : w9.cell? ⟨g3, 0, none⟩ = some (.bool false) := (zzk BY9.out 0).trans rfl; have d1 : w9.cell? ⟨g3, 1, none⟩ = some (.bool true) := (zzk BY9.out 1).trans rfl; have d2 : w9.cell? ⟨g3, 2, none⟩ = some (.int .i64 a0) := (zzk BY9.out 2).trans rfl; have d3 : w9.cell? ⟨g3, 3, none⟩ = some (.int .i64 a1) := (zzk BY9.out 3).trans rfl; have d4 : w9.cell? ⟨g3, 4, none⟩ = some (.int .i64 0) := (zzk BY9.out 4).trans rfl; have d5 : w9.cell? ⟨g3, 5, none⟩ = some (.slice An ([(⟨a2, a3, false, [], true, [0]⟩ : S34)] : List S34).length cn) := (zzk BY9.out 5).trans rfl))
   refine bodyPost_ret (results_ct rfl _ _ g1 27 #[.bool false, .bool false, .int .i64 0, .int .i64 0, .int .i64 0, .slice none 0 0] (0, 0) _ rfl (zzi (cs := #[.bool false, .bool false, .int .i64 0, .int .i64 0, .int .i64 0, .slice none 0 0]) (cs' := #[.bool false, .bool false, .int .i64 0, .int .i64 0, .int .i64 0, .slice none 0 0]) (zzi (cs := #[.bool false, .bool false, .int .i64 0, .int .i64 0, .int .i64 0, .slice none 0 0]) (cs' := #[.bool false, .bool false, .int .i64 0, .int .i64 0, .int .i64 0, .slice none 0 0]) (zzi (cs := #[.bool false, .bool false, .int .i64 0, .int .i64 0, .int .i64 0, .slice none 0 0]) (cs' := #[.bool false, .bool false, .int .i64 0, .int .i64 0, .int .i64 0, .slice none 0 0]) (zzi (cs := #[.bool false, .bool false, .int .i64 0, .int .i64 0, .int .i64 0, .slice none 0 0]) (cs' := #[.bool false, .bool false, .int .i64 0, .int .i64 0, .int .i64 0, .slice none 0 0]) (zzi (cs := #[.bool false, .bool false, .int .i64 0, .int .i64 0, .int .i64 0, .slice none 0 0]) (cs' := #[.bool false, .bool false, .int .i64 0, .int .i64 0, .int .i64 0, .slice none 0 0]) (zzi (cs := #[.bool false, .bool false, .int .i64 0, .int .i64 0, .int .i64 0, .slice none 0 0]) (cs' := #[.bool false, .bool false, .int .i64 0, .int .i64 0, .int .i64 0, .slice none 0 0]) (BK9.out) 0 (.bool false) rfl) 1 (.bool false) rfl) 2 (.int .i64 0) rfl) 3 (.int .i64 0) rfl) 4 (.int .i64 0) rfl) 5 (.slice none 0 0) rfl) Try.underlying27 rfl (by kernel_rfl)) rfl ?_
   exact ⟨_, rfl, Kd.N_nil _ _ _ _ _, zzd (zzd (zzd (zzd (zzd (zzd (HB9.out) GE1.out (j := 0) (v := .bool false)) GE1.out (j := 1) (v := .bool false)) GE1.out (j := 2) (v := .int .i64 0)) GE1.out (j := 3) (v := .int .i64 0)) GE1.out (j := 4) (v := .int .i64 0)) GE1.out (j := 5) (v := .slice none 0 0)⟩
end Go.Proofs.Yticpnjhkdfdkkaa.T
namespace Go.Proofs.Yticpnjhkdfdkkaa.T
open Go.RowKit Go.Proofs.YticpnjhkdfdkkaaW.PrintWords Go.Proofs.YticpnjhkdfdkkaaW.PrintLast Go.Proofs.YticpnjhkdfdkkaaW.PrintMore

set_option linter.unusedVariables false
set_option linter.unusedSimpArgs false
def laws_sameInts.l0 : Nat → List Int → List Int → Int → Option (Bool)
 | 0, _, _, _ => none
 | k + 1, x0, x1, x5 => if x5 < (x0.length : Int) then (if 0 ≤ x5 then (if x5 < (x1.length : Int) then (if (rd x0 x5) = (rd x1 x5) then (laws_sameInts.l0 k x0 x1 (wrap64 (x5 + 1))) else (some false)) else (none)) else (none)) else (some true)
def laws_sameInts.f (k : Nat) (l0 : List Int) (l1 : List Int) : Option (Bool) := if (l0.length : Int) = (l1.length : Int) then (laws_sameInts.l0 k l0 l1 0) else (some false)
set_option maxHeartbeats 8000000 in
set_option maxRecDepth 100000 in
theorem laws_sameInts.calls (k : Nat) (A0 : Option Addr) (c0 : Nat) (l0 : List Int) (A1 : Option Addr) (c1 : Nat) (l1 : List Int) (r : Bool) (w : World) (hr0 : Kd.C (Kd.int .i64) w A0 l0.length l0) (hc0 : l0.length ≤ c0) (hr1 : Kd.C (Kd.int .i64) w A1 l1.length l1) (hc1 : l1.length ≤ c1) (h : laws_sameInts.f k l0 l1 = some r) :
  Calls Try.prog 59 #[.slice A0 l0.length c0, .slice A1 l1.length c1] w fun e w' => e = .returned (.bool r) ∧ Drawn0 w w' := by
 have HR0 := zzm hr0
 have HC0 := zzm hc0
 clear hr0 hc0
 have HR1 := zzm hr1
 have HC1 := zzm hc1
 clear hr1 hc1
 have H : (if (l0.length : Int) = (l1.length : Int) then (laws_sameInts.l0 k l0 l1 0) else (some false)) = some r := h
 clear h
 by_cases c3 : (l0.length : Int) = (l1.length : Int)
 ·
  rw [if_pos c3] at H
  have c3b0 : ((l0.length : Int) == (l1.length : Int)) = true := beq_iff_eq.mpr c3
  have c3b1 : ((l0.length : Int) != (l1.length : Int)) = false := bne_eq_false_iff_eq.mpr c3
  have c3b2 : (l0.length == l1.length) = true := by first | simpa using c3 | (simp at c3 ⊢; omega)
  clear c3
  have H' := zzm H
  clear H
  go_enter Try.func59, Try.ntmps59
  go_wp2
  repeat (go_quiet (fail); try go_wp2)
  go_loopg [5] k (fun kq v5 w' => ∃ (x5_1 : Int), v5 = .int .i64 x5_1 ∧ Aside0 (laws_sameInts.l0 kq l0 l1 x5_1 = some r) ∧ Aside0 (kq ≤ k) ∧ Drawn0 w w')
  case atStart => exact ⟨(0), (by first | rfl | (simp; done) | (simp [*]; done)), H', ⟨Nat.le_refl _⟩, by repeat (first | exact Drawn0.refl _ | apply Drawn0.step)⟩
  case round =>
   clear H'
   try clear c1
   try clear p2
   try clear c3
   try clear c3b0
   try clear c3b1
   try clear c3b2
   obtain ⟨x5_1, rfl, HA, HK1, ⟨m1, rfl⟩⟩ := hrel
   cases gk with
   | zero => exact absurd HA.out (by simp [laws_sameInts.l0])
   | succ k1 =>
    have H := HA.out
    clear HA
    simp only [laws_sameInts.l0] at H
    by_cases c4 : x5_1 < (l0.length : Int)
    ·
     rw [if_pos c4] at H
     have c4b0 : decide (x5_1 < (l0.length : Int)) = true := decide_eq_true c4
     clear c4
     by_cases c5 : 0 ≤ x5_1
     ·
      rw [if_pos c5] at H
      have c5b0 : decide (0 ≤ x5_1) = true := decide_eq_true c5
      clear c5
      by_cases c6 : x5_1 < (l1.length : Int)
      ·
       rw [if_pos c6] at H
       have c6b0 : decide (x5_1 < (l1.length : Int)) = true := decide_eq_true c6
       clear c6
       by_cases c7 : (rd l0 x5_1) = (rd l1 x5_1)
       ·
        rw [if_pos c7] at H
        have c7b0 : ((rd l0 x5_1) == (rd l1 x5_1)) = true := beq_iff_eq.mpr c7
        have c7b1 : ((rd l0 x5_1) != (rd l1 x5_1)) = false := bne_eq_false_iff_eq.mpr c7
        clear c7
        have H' := zzm H
        clear H
        have p191 : 0 ≤ (x5_1 : Int) := of_decide_eq_true (by first | (with_reducible assumption) | assumption)
        have q191 : x5_1 < (l0.length : Int) := of_decide_eq_true (by first | (with_reducible assumption) | assumption)
        obtain ⟨ad191, e191, hx191_0⟩ := Kd.at_int HR0.out x5_1 p191 q191
        cases e191
        replace p191 := eq_true p191
        replace q191 := eq_true q191
        have p192 : 0 ≤ (x5_1 : Int) := of_decide_eq_true (by first | (with_reducible assumption) | assumption)
        have q192 : x5_1 < (l1.length : Int) := of_decide_eq_true (by first | (with_reducible assumption) | assumption)
        obtain ⟨ad192, e192, hx192_0⟩ := Kd.at_int HR1.out x5_1 p192 q192
        cases e192
        replace p192 := eq_true p192
        replace q192 := eq_true q192
        go_wp2
        repeat (go_quiet (fail); try go_wp2)
        go_roundg k1
        case measure => have := HK1.out; omega
        case rel => exact ⟨(wrap64 (x5_1 + 1)), (by first | rfl | (simp; done) | (simp [*]; done)), H', ⟨by have := HK1.out; omega⟩, by repeat (first | exact Drawn0.refl _ | apply Drawn0.step)⟩
       ·
        rw [if_neg c7] at H
        have c7b0 : ((rd l0 x5_1) == (rd l1 x5_1)) = false := beq_eq_false_iff_ne.mpr c7
        have c7b1 : ((rd l0 x5_1) != (rd l1 x5_1)) = true := bne_iff_ne.mpr c7
        obtain rfl := Option.some.inj H
        have p191 : 0 ≤ (x5_1 : Int) := of_decide_eq_true (by first | (with_reducible assumption) | assumption)
        have q191 : x5_1 < (l0.length : Int) := of_decide_eq_true (by first | (with_reducible assumption) | assumption)
        obtain ⟨ad191, e191, hx191_0⟩ := Kd.at_int HR0.out x5_1 p191 q191
        cases e191
        replace p191 := eq_true p191
        replace q191 := eq_true q191
        have p192 : 0 ≤ (x5_1 : Int) := of_decide_eq_true (by first | (with_reducible assumption) | assumption)
        have q192 : x5_1 < (l1.length : Int) := of_decide_eq_true (by first | (with_reducible assumption) | assumption)
        obtain ⟨ad192, e192, hx192_0⟩ := Kd.at_int HR1.out x5_1 p192 q192
        cases e192
        replace p192 := eq_true p192
        replace q192 := eq_true q192
        go_wp2
        repeat (go_quiet (fail); try go_wp2)
        go_ret
        exact ⟨by first | rfl | (simp; done) | (simp [*]; done), by repeat (first | exact Drawn0.refl _ | apply Drawn0.step)⟩
      ·
       rw [if_neg c6] at H
       exact absurd H (by simp)
     ·
      rw [if_neg c5] at H
      exact absurd H (by simp)
    ·
     rw [if_neg c4] at H
     have c4b0 : decide (x5_1 < (l0.length : Int)) = false := decide_eq_false c4
     clear c4
     obtain rfl := Option.some.inj H
     go_wp2
     repeat (go_quiet (fail); try go_wp2)
     go_ret
     exact ⟨by first | rfl | (simp; done) | (simp [*]; done), by repeat (first | exact Drawn0.refl _ | apply Drawn0.step)⟩
 ·
  rw [if_neg c3] at H
  have c3b0 : ((l0.length : Int) == (l1.length : Int)) = false := beq_eq_false_iff_ne.mpr c3
  have c3b1 : ((l0.length : Int) != (l1.length : Int)) = true := bne_iff_ne.mpr c3
  have c3b2 : (l0.length == l1.length) = false := by first | simpa using c3 | (simp at c3 ⊢; omega)
  obtain rfl := Option.some.inj H
  go_enter Try.func59, Try.ntmps59
  go_wp2
  repeat (go_quiet (fail); try go_wp2)
  go_ret
  exact ⟨by first | rfl | (simp; done) | (simp [*]; done), by repeat (first | exact Drawn0.refl _ | apply Drawn0.step)⟩
end Go.Proofs.Yticpnjhkdfdkkaa.T
namespace Go.Proofs.Yticpnjhkdfdkkaa.T
open Go.RowKit Go.Proofs.YticpnjhkdfdkkaaW.PrintWords Go.Proofs.YticpnjhkdfdkkaaW.PrintLast Go.Proofs.YticpnjhkdfdkkaaW.PrintMore

set_option linter.unusedVariables false
set_option linter.unusedSimpArgs false
def laws_sameRecord.f (k : Nat) (a0_0 : Int) (a0_1 : Int) (a0_2 : Bool) (l0_3 : List Int) (a0_4 : Bool) (l0_5 : List Int) (a1_0 : Int) (a1_1 : Int) (a1_2 : Bool) (l1_3 : List Int) (a1_4 : Bool) (l1_5 : List Int) : Option (Bool) := if a0_0 = a1_0 then (if a0_1 = a1_1 then (if (a0_2 == a1_2) = true then (if (a0_4 == a1_4) = true then ((laws_sameInts.f k l0_3 l1_3).bind fun t195 => (if t195 = true then ((laws_sameInts.f k l0_5 l1_5).bind fun t196 => (some t196)) else (some false))) else (some false)) else (some false)) else (some false)) else (some false)
set_option maxHeartbeats 8000000 in
set_option maxRecDepth 100000 in
theorem laws_sameRecord.calls (k : Nat) (a0_0 : Int) (a0_1 : Int) (a0_2 : Bool) (A0_3 : Option Addr) (c0_3 : Nat) (l0_3 : List Int) (a0_4 : Bool) (A0_5 : Option Addr) (c0_5 : Nat) (l0_5 : List Int) (a1_0 : Int) (a1_1 : Int) (a1_2 : Bool) (A1_3 : Option Addr) (c1_3 : Nat) (l1_3 : List Int) (a1_4 : Bool) (A1_5 : Option Addr) (c1_5 : Nat) (l1_5 : List Int) (r : Bool) (w : World) (hr0_3 : Kd.C (Kd.int .i64) w A0_3 l0_3.length l0_3) (hc0_3 : l0_3.length ≤ c0_3) (hr0_5 : Kd.C (Kd.int .i64) w A0_5 l0_5.length l0_5) (hc0_5 : l0_5.length ≤ c0_5) (hr1_3 : Kd.C (Kd.int .i64) w A1_3 l1_3.length l1_3) (hc1_3 : l1_3.length ≤ c1_3) (hr1_5 : Kd.C (Kd.int .i64) w A1_5 l1_5.length l1_5) (hc1_5 : l1_5.length ≤ c1_5) (h : laws_sameRecord.f k a0_0 a0_1 a0_2 l0_3 a0_4 l0_5 a1_0 a1_1 a1_2 l1_3 a1_4 l1_5 = some r) :
  Calls Try.prog 23 #[.agg #[.int .i64 a0_0, .int .i64 a0_1, .bool a0_2, .slice A0_3 l0_3.length c0_3, .bool a0_4, .slice A0_5 l0_5.length c0_5], .agg #[.int .i64 a1_0, .int .i64 a1_1, .bool a1_2, .slice A1_3 l1_3.length c1_3, .bool a1_4, .slice A1_5 l1_5.length c1_5]] w fun e w' => e = .returned (.bool r) ∧ Below w.heap.size w w' := by
 have hu34 := Try.underlying34
 have HR0_3 := zzm hr0_3
 have HC0_3 := zzm hc0_3
 clear hr0_3 hc0_3
 have HR0_5 := zzm hr0_5
 have HC0_5 := zzm hc0_5
 clear hr0_5 hc0_5
 have HR1_3 := zzm hr1_3
 have HC1_3 := zzm hc1_3
 clear hr1_3 hc1_3
 have HR1_5 := zzm hr1_5
 have HC1_5 := zzm hc1_5
 clear hr1_5 hc1_5
 have HB := zzm (Below.refl w.heap.size w)
 have H : (if a0_0 = a1_0 then (if a0_1 = a1_1 then (if (a0_2 == a1_2) = true then (if (a0_4 == a1_4) = true then ((laws_sameInts.f k l0_3 l1_3).bind fun t195 => (if t195 = true then ((laws_sameInts.f k l0_5 l1_5).bind fun t196 => (some t196)) else (some false))) else (some false)) else (some false)) else (some false)) else (some false)) = some r := h
 clear h
 by_cases c3 : a0_0 = a1_0
 ·
  rw [if_pos c3] at H
  have c3b0 : (a0_0 == a1_0) = true := beq_iff_eq.mpr c3
  have c3b1 : (a0_0 != a1_0) = false := bne_eq_false_iff_eq.mpr c3
  clear c3
  by_cases c4 : a0_1 = a1_1
  ·
   rw [if_pos c4] at H
   have c4b0 : (a0_1 == a1_1) = true := beq_iff_eq.mpr c4
   have c4b1 : (a0_1 != a1_1) = false := bne_eq_false_iff_eq.mpr c4
   clear c4
   by_cases c5 : (a0_2 == a1_2) = true
   ·
    rw [if_pos c5] at H
    have c5b0 : (a0_2 == a1_2) = true := c5
    (try (have c5b1 : decide (a0_2 = a1_2) = true := by simpa using c5))
    (try (have c5b2 : (a0_2 == a1_2) = true := by simpa using c5))
    clear c5
    by_cases c6 : (a0_4 == a1_4) = true
    ·
     rw [if_pos c6] at H
     have c6b0 : (a0_4 == a1_4) = true := c6
     (try (have c6b1 : decide (a0_4 = a1_4) = true := by simpa using c6))
     (try (have c6b2 : (a0_4 == a1_4) = true := by simpa using c6))
     clear c6
     replace H := Option.bind_eq_some_iff.mp H
     obtain ⟨t195, A70, H⟩ := H
     replace H : (if t195 = true then ((laws_sameInts.f k l0_5 l1_5).bind fun t196 => (some t196)) else (some false)) = some r := H
     have A7 := zzm A70
     clear A70
     by_cases c8 : t195 = true
     ·
      subst c8
      have H1 : ((laws_sameInts.f k l0_5 l1_5).bind fun t196 => (some t196)) = some r := by rw [if_pos rfl] at H; exact H
      clear H
      have H := H1
      clear H1
      replace H := Option.bind_eq_some_iff.mp H
      obtain ⟨t196, A90, H⟩ := H
      replace H : (some t196) = some r := H
      have A9 := zzm A90
      clear A90
      obtain rfl := Option.some.inj H
      go_enter Try.func23, Try.ntmps23
      go_wp2_with (first | ((with_reducible refine gate_dst (N := 2) rfl ?_); refine box_event ?hg (N := 2) ?hd (cs := #[.int .i64 a0_0, .int .i64 a0_1, .bool a0_2, .slice A0_3 l0_3.length c0_3, .bool a0_4, .slice A0_5 l0_5.length c0_5]) (t := 34) ?hr ?_; (case hd => rfl); (case hg => rfl); (case hr => first | (go_simp; done) | (go_simp; rfl)); intro gb193 hg w10 hbox hb; have n0_ := zzm (zzp (by repeat (first | (with_reducible first | exact HB.out | apply zza | apply zzb | apply zzc) | exact HB.out)) hb); have n1_ := zzm (hbox); have n2_ := zzm ((by rw [hg]; exact (zzo (by repeat (first | (with_reducible first | exact HB.out | apply zza | apply zzb | apply zzc) | exact HB.out))) : w.heap.size ≤ gb193)); have n3_ := zzm ((by rw [hg]; exact (zzo (by repeat (first | (with_reducible first | exact HB.out | apply zza | apply zzb | apply zzc) | exact HB.out))) : w.heap.size ≤ gb193)); clear HB; have HB := n0_; have BK193 := n1_; have GW193 := n2_; have GE193 := n3_; clear n0_ n1_ n2_ n3_ hb hbox hg) | ((with_reducible refine gate_dst (N := 3) rfl ?_); refine box_event ?hg (N := 3) ?hd (cs := #[.int .i64 a1_0, .int .i64 a1_1, .bool a1_2, .slice A1_3 l1_3.length c1_3, .bool a1_4, .slice A1_5 l1_5.length c1_5]) (t := 34) ?hr ?_; (case hd => rfl); (case hg => rfl); (case hr => first | (go_simp; done) | (go_simp; rfl)); intro gb194 hg w11 hbox hb; have n0_ := zzm (zzh (g := gb193) (o := .cells #[.int .i64 a0_0, .int .i64 a0_1, .bool a0_2, .slice A0_3 l0_3.length c0_3, .bool a0_4, .slice A0_5 l0_5.length c0_5] 34 (0, 0)) (by (with_reducible repeat (first | refine zzf ?_ _ | refine zzg ?_ | refine zze ?_ _)); exact BK193.out) hb); have n1_ := zzm (zzp (by repeat (first | (with_reducible first | exact HB.out | apply zza | apply zzb | apply zzc | refine zzd ?_ GE193.out) | exact HB.out)) hb); have n2_ := zzm (hbox); have n3_ := zzm ((by rw [hg]; exact (zzo (by repeat (first | (with_reducible first | exact HB.out | apply zza | apply zzb | apply zzc | refine zzd ?_ GE193.out) | exact HB.out))) : w.heap.size ≤ gb194)); have n4_ := zzm ((by rw [hg]; exact (zzo (by repeat (first | (with_reducible first | exact HB.out | apply zza | apply zzb | apply zzc | refine zzd ?_ GE193.out) | exact HB.out))) : w.heap.size ≤ gb194)); have n5_ := zzm ((by rw [hg]; exact Nat.ne_of_lt (blk_lt (g := gb193) (o := .cells #[.int .i64 a0_0, .int .i64 a0_1, .bool a0_2, .slice A0_3 l0_3.length c0_3, .bool a0_4, .slice A0_5 l0_5.length c0_5] 34 (0, 0)) (by (with_reducible repeat (first | refine zzf ?_ _ | refine zzg ?_ | refine zze ?_ _)); exact BK193.out)) : gb193 ≠ gb194)); have n6_ := zzm ((by rw [hg]; exact Nat.ne_of_gt (blk_lt (g := gb193) (o := .cells #[.int .i64 a0_0, .int .i64 a0_1, .bool a0_2, .slice A0_3 l0_3.length c0_3, .bool a0_4, .slice A0_5 l0_5.length c0_5] 34 (0, 0)) (by (with_reducible repeat (first | refine zzf ?_ _ | refine zzg ?_ | refine zze ?_ _)); exact BK193.out)) : gb194 ≠ gb193)); clear BK193 HB; have BK193 := n0_; have HB := n1_; have BK194 := n2_; have GW194 := n3_; have GE194 := n4_; have NB193_194 := n5_; have NB194_193 := n6_; clear n0_ n1_ n2_ n3_ n4_ n5_ n6_ hb hbox hg; have hnb12 := NB193_194.out; have hnc12 := NB194_193.out; obtain ⟨hcz13_0, hcz13_1, hcz13_2, hcz13_3, hcz13_4, hcz13_5, hfz13_0, hfz13_1, hfz13_2, hfz13_3, hfz13_4, hfz13_5⟩ := zzc6 BK193.out; obtain ⟨hcz14_0, hcz14_1, hcz14_2, hcz14_3, hcz14_4, hcz14_5, hfz14_0, hfz14_1, hfz14_2, hfz14_3, hfz14_4, hfz14_5⟩ := zzc6 BK194.out) | (go_at_call 59; (with_reducible refine (laws_sameInts.calls k _ _ l0_3 _ _ l1_3 true _ ?side1 ?side2 ?side3 ?side4 A7.out).mono ?_); (case side1 => repeat (first | exact (Kd.C_below HR0_3.out HB.out) | (with_reducible refine Kd.C_alloc ?_ _) | (with_reducible refine Kd.C_drewN ?_ _) | (with_reducible refine Kd.C_drew ?_))); (case side2 => exact HC0_3.out); (case side3 => repeat (first | exact (Kd.C_below HR1_3.out HB.out) | (with_reducible refine Kd.C_alloc ?_ _) | (with_reducible refine Kd.C_drewN ?_ _) | (with_reducible refine Kd.C_drew ?_))); (case side4 => exact HC1_3.out); rintro e w' ⟨rfl, ⟨nd, rfl⟩⟩) | (go_at_call 59; (with_reducible refine (laws_sameInts.calls k _ _ l0_5 _ _ l1_5 t196 _ ?side1 ?side2 ?side3 ?side4 A9.out).mono ?_); (case side1 => repeat (first | exact (Kd.C_below HR0_5.out (by repeat (first | (with_reducible first | exact HB.out | apply zza | apply zzb | apply zzc | refine zzd ?_ GE193.out | refine zzd ?_ GE194.out) | exact HB.out))) | (with_reducible refine Kd.C_alloc ?_ _) | (with_reducible refine Kd.C_drewN ?_ _) | (with_reducible refine Kd.C_drew ?_))); (case side2 => exact HC0_5.out); (case side3 => repeat (first | exact (Kd.C_below HR1_5.out (by repeat (first | (with_reducible first | exact HB.out | apply zza | apply zzb | apply zzc | refine zzd ?_ GE193.out | refine zzd ?_ GE194.out) | exact HB.out))) | (with_reducible refine Kd.C_alloc ?_ _) | (with_reducible refine Kd.C_drewN ?_ _) | (with_reducible refine Kd.C_drew ?_))); (case side4 => exact HC1_5.out); rintro e w' ⟨rfl, ⟨nd, rfl⟩⟩))
      go_ret
      exact ⟨by first | rfl | (simp [errW_none, errW_some] <;> rfl) | (simp [*, errW_none, errW_some] <;> rfl), by repeat (first | (with_reducible first | exact HB.out | apply zza | apply zzb | apply zzc | refine zzd ?_ GE193.out | refine zzd ?_ GE194.out) | exact HB.out)⟩
     ·
      replace c8 := Bool.eq_false_iff.mpr c8
      subst c8
      have H1 : (some false) = some r := by rw [if_neg (show ¬ (false = true) by decide)] at H; exact H
      clear H
      have H := H1
      clear H1
      obtain rfl := Option.some.inj H
      go_enter Try.func23, Try.ntmps23
      go_wp2_with (first | ((with_reducible refine gate_dst (N := 2) rfl ?_); refine box_event ?hg (N := 2) ?hd (cs := #[.int .i64 a0_0, .int .i64 a0_1, .bool a0_2, .slice A0_3 l0_3.length c0_3, .bool a0_4, .slice A0_5 l0_5.length c0_5]) (t := 34) ?hr ?_; (case hd => rfl); (case hg => rfl); (case hr => first | (go_simp; done) | (go_simp; rfl)); intro gb193 hg w15 hbox hb; have n0_ := zzm (zzp (by repeat (first | (with_reducible first | exact HB.out | apply zza | apply zzb | apply zzc) | exact HB.out)) hb); have n1_ := zzm (hbox); have n2_ := zzm ((by rw [hg]; exact (zzo (by repeat (first | (with_reducible first | exact HB.out | apply zza | apply zzb | apply zzc) | exact HB.out))) : w.heap.size ≤ gb193)); have n3_ := zzm ((by rw [hg]; exact (zzo (by repeat (first | (with_reducible first | exact HB.out | apply zza | apply zzb | apply zzc) | exact HB.out))) : w.heap.size ≤ gb193)); clear HB; have HB := n0_; have BK193 := n1_; have GW193 := n2_; have GE193 := n3_; clear n0_ n1_ n2_ n3_ hb hbox hg) | ((with_reducible refine gate_dst (N := 3) rfl ?_); refine box_event ?hg (N := 3) ?hd (cs := #[.int .i64 a1_0, .int .i64 a1_1, .bool a1_2, .slice A1_3 l1_3.length c1_3, .bool a1_4, .slice A1_5 l1_5.length c1_5]) (t := 34) ?hr ?_; (case hd => rfl); (case hg => rfl); (case hr => first | (go_simp; done) | (go_simp; rfl)); intro gb194 hg w16 hbox hb; have n0_ := zzm (zzh (g := gb193) (o := .cells #[.int .i64 a0_0, .int .i64 a0_1, .bool a0_2, .slice A0_3 l0_3.length c0_3, .bool a0_4, .slice A0_5 l0_5.length c0_5] 34 (0, 0)) (by (with_reducible repeat (first | refine zzf ?_ _ | refine zzg ?_ | refine zze ?_ _)); exact BK193.out) hb); have n1_ := zzm (zzp (by repeat (first | (with_reducible first | exact HB.out | apply zza | apply zzb | apply zzc | refine zzd ?_ GE193.out) | exact HB.out)) hb); have n2_ := zzm (hbox); have n3_ := zzm ((by rw [hg]; exact (zzo (by repeat (first | (with_reducible first | exact HB.out | apply zza | apply zzb | apply zzc | refine zzd ?_ GE193.out) | exact HB.out))) : w.heap.size ≤ gb194)); have n4_ := zzm ((by rw [hg]; exact (zzo (by repeat (first | (with_reducible first | exact HB.out | apply zza | apply zzb | apply zzc | refine zzd ?_ GE193.out) | exact HB.out))) : w.heap.size ≤ gb194)); have n5_ := zzm ((by rw [hg]; exact Nat.ne_of_lt (blk_lt (g := gb193) (o := .cells #[.int .i64 a0_0, .int .i64 a0_1, .bool a0_2, .slice A0_3 l0_3.length c0_3, .bool a0_4, .slice A0_5 l0_5.length c0_5] 34 (0, 0)) (by (with_reducible repeat (first | refine zzf ?_ _ | refine zzg ?_ | refine zze ?_ _)); exact BK193.out)) : gb193 ≠ gb194)); have n6_ := zzm ((by rw [hg]; exact Nat.ne_of_gt (blk_lt (g := gb193) (o := .cells #[.int .i64 a0_0, .int .i64 a0_1, .bool a0_2, .slice A0_3 l0_3.length c0_3, .bool a0_4, .slice A0_5 l0_5.length c0_5] 34 (0, 0)) (by (with_reducible repeat (first | refine zzf ?_ _ | refine zzg ?_ | refine zze ?_ _)); exact BK193.out)) : gb194 ≠ gb193)); clear BK193 HB; have BK193 := n0_; have HB := n1_; have BK194 := n2_; have GW194 := n3_; have GE194 := n4_; have NB193_194 := n5_; have NB194_193 := n6_; clear n0_ n1_ n2_ n3_ n4_ n5_ n6_ hb hbox hg; have hnb17 := NB193_194.out; have hnc17 := NB194_193.out; obtain ⟨hcz18_0, hcz18_1, hcz18_2, hcz18_3, hcz18_4, hcz18_5, hfz18_0, hfz18_1, hfz18_2, hfz18_3, hfz18_4, hfz18_5⟩ := zzc6 BK193.out; obtain ⟨hcz19_0, hcz19_1, hcz19_2, hcz19_3, hcz19_4, hcz19_5, hfz19_0, hfz19_1, hfz19_2, hfz19_3, hfz19_4, hfz19_5⟩ := zzc6 BK194.out) | (go_at_call 59; (with_reducible refine (laws_sameInts.calls k _ _ l0_3 _ _ l1_3 false _ ?side1 ?side2 ?side3 ?side4 A7.out).mono ?_); (case side1 => repeat (first | exact (Kd.C_below HR0_3.out HB.out) | (with_reducible refine Kd.C_alloc ?_ _) | (with_reducible refine Kd.C_drewN ?_ _) | (with_reducible refine Kd.C_drew ?_))); (case side2 => exact HC0_3.out); (case side3 => repeat (first | exact (Kd.C_below HR1_3.out HB.out) | (with_reducible refine Kd.C_alloc ?_ _) | (with_reducible refine Kd.C_drewN ?_ _) | (with_reducible refine Kd.C_drew ?_))); (case side4 => exact HC1_3.out); rintro e w' ⟨rfl, ⟨nd, rfl⟩⟩))
      go_ret
      exact ⟨by first | rfl | (simp [errW_none, errW_some] <;> rfl) | (simp [*, errW_none, errW_some] <;> rfl), by repeat (first | (with_reducible first | exact HB.out | apply zza | apply zzb | apply zzc | refine zzd ?_ GE193.out | refine zzd ?_ GE194.out) | exact HB.out)⟩
    ·
     rw [if_neg c6] at H
     have c6b0 : (a0_4 == a1_4) = false := by simpa using c6
     (try (have c6b1 : decide (a0_4 = a1_4) = false := by simpa using c6))
     (try (have c6b2 : (a0_4 == a1_4) = false := by simpa using c6))
     (try (have c6b3 : ¬ (a0_4 = a1_4) := by simpa using c6))
     clear c6
     obtain rfl := Option.some.inj H
     go_enter Try.func23, Try.ntmps23
     go_wp2_with (first | ((with_reducible refine gate_dst (N := 2) rfl ?_); refine box_event ?hg (N := 2) ?hd (cs := #[.int .i64 a0_0, .int .i64 a0_1, .bool a0_2, .slice A0_3 l0_3.length c0_3, .bool a0_4, .slice A0_5 l0_5.length c0_5]) (t := 34) ?hr ?_; (case hd => rfl); (case hg => rfl); (case hr => first | (go_simp; done) | (go_simp; rfl)); intro gb193 hg w20 hbox hb; have n0_ := zzm (zzp (by repeat (first | (with_reducible first | exact HB.out | apply zza | apply zzb | apply zzc) | exact HB.out)) hb); have n1_ := zzm (hbox); have n2_ := zzm ((by rw [hg]; exact (zzo (by repeat (first | (with_reducible first | exact HB.out | apply zza | apply zzb | apply zzc) | exact HB.out))) : w.heap.size ≤ gb193)); have n3_ := zzm ((by rw [hg]; exact (zzo (by repeat (first | (with_reducible first | exact HB.out | apply zza | apply zzb | apply zzc) | exact HB.out))) : w.heap.size ≤ gb193)); clear HB; have HB := n0_; have BK193 := n1_; have GW193 := n2_; have GE193 := n3_; clear n0_ n1_ n2_ n3_ hb hbox hg) | ((with_reducible refine gate_dst (N := 3) rfl ?_); refine box_event ?hg (N := 3) ?hd (cs := #[.int .i64 a1_0, .int .i64 a1_1, .bool a1_2, .slice A1_3 l1_3.length c1_3, .bool a1_4, .slice A1_5 l1_5.length c1_5]) (t := 34) ?hr ?_; (case hd => rfl); (case hg => rfl); (case hr => first | (go_simp; done) | (go_simp; rfl)); intro gb194 hg w21 hbox hb; have n0_ := zzm (zzh (g := gb193) (o := .cells #[.int .i64 a0_0, .int .i64 a0_1, .bool a0_2, .slice A0_3 l0_3.length c0_3, .bool a0_4, .slice A0_5 l0_5.length c0_5] 34 (0, 0)) (by (with_reducible repeat (first | refine zzf ?_ _ | refine zzg ?_ | refine zze ?_ _)); exact BK193.out) hb); have n1_ := zzm (zzp (by repeat (first | (with_reducible first | exact HB.out | apply zza | apply zzb | apply zzc | refine zzd ?_ GE193.out) | exact HB.out)) hb); have n2_ := zzm (hbox); have n3_ := zzm ((by rw [hg]; exact (zzo (by repeat (first | (with_reducible first | exact HB.out | apply zza | apply zzb | apply zzc | refine zzd ?_ GE193.out) | exact HB.out))) : w.heap.size ≤ gb194)); have n4_ := zzm ((by rw [hg]; exact (zzo (by repeat (first | (with_reducible first | exact HB.out | apply zza | apply zzb | apply zzc | refine zzd ?_ GE193.out) | exact HB.out))) : w.heap.size ≤ gb194)); have n5_ := zzm ((by rw [hg]; exact Nat.ne_of_lt (blk_lt (g := gb193) (o := .cells #[.int .i64 a0_0, .int .i64 a0_1, .bool a0_2, .slice A0_3 l0_3.length c0_3, .bool a0_4, .slice A0_5 l0_5.length c0_5] 34 (0, 0)) (by (with_reducible repeat (first | refine zzf ?_ _ | refine zzg ?_ | refine zze ?_ _)); exact BK193.out)) : gb193 ≠ gb194)); have n6_ := zzm ((by rw [hg]; exact Nat.ne_of_gt (blk_lt (g := gb193) (o := .cells #[.int .i64 a0_0, .int .i64 a0_1, .bool a0_2, .slice A0_3 l0_3.length c0_3, .bool a0_4, .slice A0_5 l0_5.length c0_5] 34 (0, 0)) (by (with_reducible repeat (first | refine zzf ?_ _ | refine zzg ?_ | refine zze ?_ _)); exact BK193.out)) : gb194 ≠ gb193)); clear BK193 HB; have BK193 := n0_; have HB := n1_; have BK194 := n2_; have GW194 := n3_; have GE194 := n4_; have NB193_194 := n5_; have NB194_193 := n6_; clear n0_ n1_ n2_ n3_ n4_ n5_ n6_ hb hbox hg; have hnb22 := NB193_194.out; have hnc22 := NB194_193.out; obtain ⟨hcz23_0, hcz23_1, hcz23_2, hcz23_3, hcz23_4, hcz23_5, hfz23_0, hfz23_1, hfz23_2, hfz23_3, hfz23_4, hfz23_5⟩ := zzc6 BK193.out; obtain ⟨hcz24_0, hcz24_1, hcz24_2, hcz24_3, hcz24_4, hcz24_5, hfz24_0, hfz24_1, hfz24_2, hfz24_3, hfz24_4, hfz24_5⟩ := zzc6 BK194.out))
     go_ret
     exact ⟨by first | rfl | (simp [errW_none, errW_some] <;> rfl) | (simp [*, errW_none, errW_some] <;> rfl), by repeat (first | (with_reducible first | exact HB.out | apply zza | apply zzb | apply zzc | refine zzd ?_ GE193.out | refine zzd ?_ GE194.out) | exact HB.out)⟩
   ·
    rw [if_neg c5] at H
    have c5b0 : (a0_2 == a1_2) = false := by simpa using c5
    (try (have c5b1 : decide (a0_2 = a1_2) = false := by simpa using c5))
    (try (have c5b2 : (a0_2 == a1_2) = false := by simpa using c5))
    (try (have c5b3 : ¬ (a0_2 = a1_2) := by simpa using c5))
    clear c5
    obtain rfl := Option.some.inj H
    go_enter Try.func23, Try.ntmps23
    go_wp2_with (first | ((with_reducible refine gate_dst (N := 2) rfl ?_); refine box_event ?hg (N := 2) ?hd (cs := #[.int .i64 a0_0, .int .i64 a0_1, .bool a0_2, .slice A0_3 l0_3.length c0_3, .bool a0_4, .slice A0_5 l0_5.length c0_5]) (t := 34) ?hr ?_; (case hd => rfl); (case hg => rfl); (case hr => first | (go_simp; done) | (go_simp; rfl)); intro gb193 hg w25 hbox hb; have n0_ := zzm (zzp (by repeat (first | (with_reducible first | exact HB.out | apply zza | apply zzb | apply zzc) | exact HB.out)) hb); have n1_ := zzm (hbox); have n2_ := zzm ((by rw [hg]; exact (zzo (by repeat (first | (with_reducible first | exact HB.out | apply zza | apply zzb | apply zzc) | exact HB.out))) : w.heap.size ≤ gb193)); have n3_ := zzm ((by rw [hg]; exact (zzo (by repeat (first | (with_reducible first | exact HB.out | apply zza | apply zzb | apply zzc) | exact HB.out))) : w.heap.size ≤ gb193)); clear HB; have HB := n0_; have BK193 := n1_; have GW193 := n2_; have GE193 := n3_; clear n0_ n1_ n2_ n3_ hb hbox hg) | ((with_reducible refine gate_dst (N := 3) rfl ?_); refine box_event ?hg (N := 3) ?hd (cs := #[.int .i64 a1_0, .int .i64 a1_1, .bool a1_2, .slice A1_3 l1_3.length c1_3, .bool a1_4, .slice A1_5 l1_5.length c1_5]) (t := 34) ?hr ?_; (case hd => rfl); (case hg => rfl); (case hr => first | (go_simp; done) | (go_simp; rfl)); intro gb194 hg w26 hbox hb; have n0_ := zzm (zzh (g := gb193) (o := .cells #[.int .i64 a0_0, .int .i64 a0_1, .bool a0_2, .slice A0_3 l0_3.length c0_3, .bool a0_4, .slice A0_5 l0_5.length c0_5] 34 (0, 0)) (by (with_reducible repeat (first | refine zzf ?_ _ | refine zzg ?_ | refine zze ?_ _)); exact BK193.out) hb); have n1_ := zzm (zzp (by repeat (first | (with_reducible first | exact HB.out | apply zza | apply zzb | apply zzc | refine zzd ?_ GE193.out) | exact HB.out)) hb); have n2_ := zzm (hbox); have n3_ := zzm ((by rw [hg]; exact (zzo (by repeat (first | (with_reducible first | exact HB.out | apply zza | apply zzb | apply zzc | refine zzd ?_ GE193.out) | exact HB.out))) : w.heap.size ≤ gb194)); have n4_ := zzm ((by rw [hg]; exact (zzo (by repeat (first | (with_reducible first | exact HB.out | apply zza | apply zzb | apply zzc | refine zzd ?_ GE193.out) | exact HB.out))) : w.heap.size ≤ gb194)); have n5_ := zzm ((by rw [hg]; exact Nat.ne_of_lt (blk_lt (g := gb193) (o := .cells #[.int .i64 a0_0, .int .i64 a0_1, .bool a0_2, .slice A0_3 l0_3.length c0_3, .bool a0_4, .slice A0_5 l0_5.length c0_5] 34 (0, 0)) (by (with_reducible repeat (first | refine zzf ?_ _ | refine zzg ?_ | refine zze ?_ _)); exact BK193.out)) : gb193 ≠ gb194)); have n6_ := zzm ((by rw [hg]; exact Nat.ne_of_gt (blk_lt (g := gb193) (o := .cells #[.int .i64 a0_0, .int .i64 a0_1, .bool a0_2, .slice A0_3 l0_3.length c0_3, .bool a0_4, .slice A0_5 l0_5.length c0_5] 34 (0, 0)) (by (with_reducible repeat (first | refine zzf ?_ _ | refine zzg ?_ | refine zze ?_ _)); exact BK193.out)) : gb194 ≠ gb193)); clear BK193 HB; have BK193 := n0_; have HB := n1_; have BK194 := n2_; have GW194 := n3_; have GE194 := n4_; have NB193_194 := n5_; have NB194_193 := n6_; clear n0_ n1_ n2_ n3_ n4_ n5_ n6_ hb hbox hg; have hnb27 := NB193_194.out; have hnc27 := NB194_193.out; obtain ⟨hcz28_0, hcz28_1, hcz28_2, hcz28_3, hcz28_4, hcz28_5, hfz28_0, hfz28_1, hfz28_2, hfz28_3, hfz28_4, hfz28_5⟩ := zzc6 BK193.out; obtain ⟨hcz29_0, hcz29_1, hcz29_2, hcz29_3, hcz29_4, hcz29_5, hfz29_0, hfz29_1, hfz29_2, hfz29_3, hfz29_4, hfz29_5⟩ := zzc6 BK194.out))
    go_ret
    exact ⟨by first | rfl | (simp [errW_none, errW_some] <;> rfl) | (simp [*, errW_none, errW_some] <;> rfl), by repeat (first | (with_reducible first | exact HB.out | apply zza | apply zzb | apply zzc | refine zzd ?_ GE193.out | refine zzd ?_ GE194.out) | exact HB.out)⟩
  ·
   rw [if_neg c4] at H
   have c4b0 : (a0_1 == a1_1) = false := beq_eq_false_iff_ne.mpr c4
   have c4b1 : (a0_1 != a1_1) = true := bne_iff_ne.mpr c4
   obtain rfl := Option.some.inj H
   go_enter Try.func23, Try.ntmps23
   go_wp2_with (first | ((with_reducible refine gate_dst (N := 2) rfl ?_); refine box_event ?hg (N := 2) ?hd (cs := #[.int .i64 a0_0, .int .i64 a0_1, .bool a0_2, .slice A0_3 l0_3.length c0_3, .bool a0_4, .slice A0_5 l0_5.length c0_5]) (t := 34) ?hr ?_; (case hd => rfl); (case hg => rfl); (case hr => first | (go_simp; done) | (go_simp; rfl)); intro gb193 hg w30 hbox hb; have n0_ := zzm (zzp (by repeat (first | (with_reducible first | exact HB.out | apply zza | apply zzb | apply zzc) | exact HB.out)) hb); have n1_ := zzm (hbox); have n2_ := zzm ((by rw [hg]; exact (zzo (by repeat (first | (with_reducible first | exact HB.out | apply zza | apply zzb | apply zzc) | exact HB.out))) : w.heap.size ≤ gb193)); have n3_ := zzm ((by rw [hg]; exact (zzo (by repeat (first | (with_reducible first | exact HB.out | apply zza | apply zzb | apply zzc) | exact HB.out))) : w.heap.size ≤ gb193)); clear HB; have HB := n0_; have BK193 := n1_; have GW193 := n2_; have GE193 := n3_; clear n0_ n1_ n2_ n3_ hb hbox hg) | ((with_reducible refine gate_dst (N := 3) rfl ?_); refine box_event ?hg (N := 3) ?hd (cs := #[.int .i64 a1_0, .int .i64 a1_1, .bool a1_2, .slice A1_3 l1_3.length c1_3, .bool a1_4, .slice A1_5 l1_5.length c1_5]) (t := 34) ?hr ?_; (case hd => rfl); (case hg => rfl); (case hr => first | (go_simp; done) | (go_simp; rfl)); intro gb194 hg w31 hbox hb; have n0_ := zzm (zzh (g := gb193) (o := .cells #[.int .i64 a0_0, .int .i64 a0_1, .bool a0_2, .slice A0_3 l0_3.length c0_3, .bool a0_4, .slice A0_5 l0_5.length c0_5] 34 (0, 0)) (by (with_reducible repeat (first | refine zzf ?_ _ | refine zzg ?_ | refine zze ?_ _)); exact BK193.out) hb); have n1_ := zzm (zzp (by repeat (first | (with_reducible first | exact HB.out | apply zza | apply zzb | apply zzc | refine zzd ?_ GE193.out) | exact HB.out)) hb); have n2_ := zzm (hbox); have n3_ := zzm ((by rw [hg]; exact (zzo (by repeat (first | (with_reducible first | exact HB.out | apply zza | apply zzb | apply zzc | refine zzd ?_ GE193.out) | exact HB.out))) : w.heap.size ≤ gb194)); have n4_ := zzm ((by rw [hg]; exact (zzo (by repeat (first | (with_reducible first | exact HB.out | apply zza | apply zzb | apply zzc | refine zzd ?_ GE193.out) | exact HB.out))) : w.heap.size ≤ gb194)); have n5_ := zzm ((by rw [hg]; exact Nat.ne_of_lt (blk_lt (g := gb193) (o := .cells #[.int .i64 a0_0, .int .i64 a0_1, .bool a0_2, .slice A0_3 l0_3.length c0_3, .bool a0_4, .slice A0_5 l0_5.length c0_5] 34 (0, 0)) (by (with_reducible repeat (first | refine zzf ?_ _ | refine zzg ?_ | refine zze ?_ _)); exact BK193.out)) : gb193 ≠ gb194)); have n6_ := zzm ((by rw [hg]; exact Nat.ne_of_gt (blk_lt (g := gb193) (o := .cells #[.int .i64 a0_0, .int .i64 a0_1, .bool a0_2, .slice A0_3 l0_3.length c0_3, .bool a0_4, .slice A0_5 l0_5.length c0_5] 34 (0, 0)) (by (with_reducible repeat (first | refine zzf ?_ _ | refine zzg ?_ | refine zze ?_ _)); exact BK193.out)) : gb194 ≠ gb193)); clear BK193 HB; have BK193 := n0_; have HB := n1_; have BK194 := n2_; have GW194 := n3_; have GE194 := n4_; have NB193_194 := n5_; have NB194_193 := n6_; clear n0_ n1_ n2_ n3_ n4_ n5_ n6_ hb hbox hg; have hnb32 := NB193_194.out; have hnc32 := NB194_193.out; obtain ⟨hcz33_0, hcz33_1, hcz33_2, hcz33_3, hcz33_4, hcz33_5, hfz33_0, hfz33_1, hfz33_2, hfz33_3, hfz33_4, hfz33_5⟩ := zzc6 BK193.out; obtain ⟨hcz34_0, hcz34_1, hcz34_2, hcz34_3, hcz34_4, hcz34_5, hfz34_0, hfz34_1, hfz34_2, hfz34_3, hfz34_4, hfz34_5⟩ := zzc6 BK194.out))
   go_ret
   exact ⟨by first | rfl | (simp [errW_none, errW_some] <;> rfl) | (simp [*, errW_none, errW_some] <;> rfl), by repeat (first | (with_reducible first | exact HB.out | apply zza | apply zzb | apply zzc | refine zzd ?_ GE193.out | refine zzd ?_ GE194.out) | exact HB.out)⟩
 ·
  rw [if_neg c3] at H
  have c3b0 : (a0_0 == a1_0) = false := beq_eq_false_iff_ne.mpr c3
  have c3b1 : (a0_0 != a1_0) = true := bne_iff_ne.mpr c3
  obtain rfl := Option.some.inj H
  go_enter Try.func23, Try.ntmps23
  go_wp2_with (first | ((with_reducible refine gate_dst (N := 2) rfl ?_); refine box_event ?hg (N := 2) ?hd (cs := #[.int .i64 a0_0, .int .i64 a0_1, .bool a0_2, .slice A0_3 l0_3.length c0_3, .bool a0_4, .slice A0_5 l0_5.length c0_5]) (t := 34) ?hr ?_; (case hd => rfl); (case hg => rfl); (case hr => first | (go_simp; done) | (go_simp; rfl)); intro gb193 hg w35 hbox hb; have n0_ := zzm (zzp (by repeat (first | (with_reducible first | exact HB.out | apply zza | apply zzb | apply zzc) | exact HB.out)) hb); have n1_ := zzm (hbox); have n2_ := zzm ((by rw [hg]; exact (zzo (by repeat (first | (with_reducible first | exact HB.out | apply zza | apply zzb | apply zzc) | exact HB.out))) : w.heap.size ≤ gb193)); have n3_ := zzm ((by rw [hg]; exact (zzo (by repeat (first | (with_reducible first | exact HB.out | apply zza | apply zzb | apply zzc) | exact HB.out))) : w.heap.size ≤ gb193)); clear HB; have HB := n0_; have BK193 := n1_; have GW193 := n2_; have GE193 := n3_; clear n0_ n1_ n2_ n3_ hb hbox hg) | ((with_reducible refine gate_dst (N := 3) rfl ?_); refine box_event ?hg (N := 3) ?hd (cs := #[.int .i64 a1_0, .int .i64 a1_1, .bool a1_2, .slice A1_3 l1_3.length c1_3, .bool a1_4, .slice A1_5 l1_5.length c1_5]) (t := 34) ?hr ?_; (case hd => rfl); (case hg => rfl); (case hr => first | (go_simp; done) | (go_simp; rfl)); intro gb194 hg w36 hbox hb; have n0_ := zzm (zzh (g := gb193) (o := .cells #[.int .i64 a0_0, .int .i64 a0_1, .bool a0_2, .slice A0_3 l0_3.length c0_3, .bool a0_4, .slice A0_5 l0_5.length c0_5] 34 (0, 0)) (by (with_reducible repeat (first | refine zzf ?_ _ | refine zzg ?_ | refine zze ?_ _)); exact BK193.out) hb); have n1_ := zzm (zzp (by repeat (first | (with_reducible first | exact HB.out | apply zza | apply zzb | apply zzc | refine zzd ?_ GE193.out) | exact HB.out)) hb); have n2_ := zzm (hbox); have n3_ := zzm ((by rw [hg]; exact (zzo (by repeat (first | (with_reducible first | exact HB.out | apply zza | apply zzb | apply zzc | refine zzd ?_ GE193.out) | exact HB.out))) : w.heap.size ≤ gb194)); have n4_ := zzm ((by rw [hg]; exact (zzo (by repeat (first | (with_reducible first | exact HB.out | apply zza | apply zzb | apply zzc | refine zzd ?_ GE193.out) | exact HB.out))) : w.heap.size ≤ gb194)); have n5_ := zzm ((by rw [hg]; exact Nat.ne_of_lt (blk_lt (g := gb193) (o := .cells #[.int .i64 a0_0, .int .i64 a0_1, .bool a0_2, .slice A0_3 l0_3.length c0_3, .bool a0_4, .slice A0_5 l0_5.length c0_5] 34 (0, 0)) (by (with_reducible repeat (first | refine zzf ?_ _ | refine zzg ?_ | refine zze ?_ _)); exact BK193.out)) : gb193 ≠ gb194)); have n6_ := zzm ((by rw [hg]; exact Nat.ne_of_gt (blk_lt (g := gb193) (o := .cells #[.int .i64 a0_0, .int .i64 a0_1, .bool a0_2, .slice A0_3 l0_3.length c0_3, .bool a0_4, .slice A0_5 l0_5.length c0_5] 34 (0, 0)) (by (with_reducible repeat (first | refine zzf ?_ _ | refine zzg ?_ | refine zze ?_ _)); exact BK193.out)) : gb194 ≠ gb193)); clear BK193 HB; have BK193 := n0_; have HB := n1_; have BK194 := n2_; have GW194 := n3_; have GE194 := n4_; have NB193_194 := n5_; have NB194_193 := n6_; clear n0_ n1_ n2_ n3_ n4_ n5_ n6_ hb hbox hg; have hnb37 := NB193_194.out; have hnc37 := NB194_193.out; obtain ⟨hcz38_0, hcz38_1, hcz38_2, hcz38_3, hcz38_4, hcz38_5, hfz38_0, hfz38_1, hfz38_2, hfz38_3, hfz38_4, hfz38_5⟩ := zzc6 BK193.out; obtain ⟨hcz39_0, hcz39_1, hcz39_2, hcz39_3, hcz39_4, hcz39_5, hfz39_0, hfz39_1, hfz39_2, hfz39_3, hfz39_4, hfz39_5⟩ := zzc6 BK194.out))
  go_ret
  exact ⟨by first | rfl | (simp [errW_none, errW_some] <;> rfl) | (simp [*, errW_none, errW_some] <;> rfl), by repeat (first | (with_reducible first | exact HB.out | apply zza | apply zzb | apply zzc | refine zzd ?_ GE193.out | refine zzd ?_ GE194.out) | exact HB.out)⟩
end Go.Proofs.Yticpnjhkdfdkkaa.T
namespace Go.Proofs.Yticpnjhkdfdkkaa.T
open Go.RowKit Go.Proofs.YticpnjhkdfdkkaaW.PrintWords Go.Proofs.YticpnjhkdfdkkaaW.PrintLast Go.Proofs.YticpnjhkdfdkkaaW.PrintMore

set_option linter.unusedVariables false
set_option linter.unusedSimpArgs false
def laws_sameRecords.l0 : Nat → List (S34) → List (S34) → Int → Option (Bool)
 | 0, _, _, _ => none
 | k + 1, x0, x1, x5 => if x5 < (x0.length : Int) then (if 0 ≤ x5 then (if x5 < (x1.length : Int) then ((laws_sameRecord.f k ((rd_T34 x0 x5).f0) ((rd_T34 x0 x5).f1) ((rd_T34 x0 x5).f2) ((rd_T34 x0 x5).f3) ((rd_T34 x0 x5).f4) ((rd_T34 x0 x5).f5) ((rd_T34 x1 x5).f0) ((rd_T34 x1 x5).f1) ((rd_T34 x1 x5).f2) ((rd_T34 x1 x5).f3) ((rd_T34 x1 x5).f4) ((rd_T34 x1 x5).f5)).bind fun t199 => (if t199 = true then (laws_sameRecords.l0 k x0 x1 (wrap64 (x5 + 1))) else (some false))) else (none)) else (none)) else (some true)
def laws_sameRecords.f (k : Nat) (l0 : List (S34)) (l1 : List (S34)) : Option (Bool) := if (l0.length : Int) = (l1.length : Int) then (laws_sameRecords.l0 k l0 l1 0) else (some false)
def laws_sameRecords.T6 : Bool × List (List Nat × List Nat) := (true, [([], []), ([], []), ([0, 1], [0, 1]), ([2], [2]), ([], []), ([], []), ([4, 5], [4, 5]), ([6], [6]), ([3, 7], [3, 7]), ([8], [8])])
def laws_sameRecords.B6 : List Nat := [0, 0, 3, 7, 0, 0, 48, 112, 255, 511]
theorem laws_sameRecords.tab6 : rtab .any (opsOf Try.f36 6) = laws_sameRecords.T6 := by kernel_rfl
theorem laws_sameRecords.bits6 : waitsOk laws_sameRecords.T6.2 laws_sameRecords.B6 = true := by kernel_rfl
set_option maxHeartbeats 8000000 in
set_option maxRecDepth 100000 in
theorem laws_sameRecords.calls (k : Nat) (A0 : Option Addr) (c0 : Nat) (l0 : List (S34)) (A1 : Option Addr) (c1 : Nat) (l1 : List (S34)) (r : Bool) (w : World) (hr0 : Kd.C k34 w A0 l0.length l0) (hc0 : l0.length ≤ c0) (hr1 : Kd.C k34 w A1 l1.length l1) (hc1 : l1.length ≤ c1) (h : laws_sameRecords.f k l0 l1 = some r) :
  Calls Try.prog 36 #[.slice A0 l0.length c0, .slice A1 l1.length c1] w fun e w' => e = .returned (.bool r) ∧ Below w.heap.size w w' := by
 have hu34 := Try.underlying34
 have HR0 := zzm hr0
 have HC0 := zzm hc0
 clear hr0 hc0
 have HR1 := zzm hr1
 have HC1 := zzm hc1
 clear hr1 hc1
 have HB := zzm (Below.refl w.heap.size w)
 have H : (if (l0.length : Int) = (l1.length : Int) then (laws_sameRecords.l0 k l0 l1 0) else (some false)) = some r := h
 clear h
 by_cases c3 : (l0.length : Int) = (l1.length : Int)
 ·
  rw [if_pos c3] at H
  have c3b0 : ((l0.length : Int) == (l1.length : Int)) = true := beq_iff_eq.mpr c3
  have c3b1 : ((l0.length : Int) != (l1.length : Int)) = false := bne_eq_false_iff_eq.mpr c3
  have c3b2 : (l0.length == l1.length) = true := by first | simpa using c3 | (simp at c3 ⊢; omega)
  clear c3
  have H' := zzm H
  clear H
  go_enter Try.func36, Try.ntmps36
  go_wp2
  go_loopg [5] k (fun kq v5 w' => ∃ (x5_1 : Int), v5 = .int .i64 x5_1 ∧ Aside0 (laws_sameRecords.l0 kq l0 l1 x5_1 = some r) ∧ Aside0 (kq ≤ k) ∧ Aside0 (Below w.heap.size w w'))
  case atStart => exact ⟨(0), (by first | rfl | (simp; done) | (simp [*]; done)), H', ⟨Nat.le_refl _⟩, ⟨by repeat (first | (with_reducible first | exact HB.out | apply zza | apply zzb | apply zzc) | exact HB.out)⟩⟩
  case round =>
   clear H'
   try clear c1
   try clear p2
   try clear c3
   try clear c3b0
   try clear c3b1
   try clear c3b2
   obtain ⟨x5_1, rfl, HA, HK1, HB⟩ := hrel
   cases gk with
   | zero => exact absurd HA.out (by simp [laws_sameRecords.l0])
   | succ k1 =>
    have H := HA.out
    clear HA
    simp only [laws_sameRecords.l0] at H
    by_cases c4 : x5_1 < (l0.length : Int)
    ·
     rw [if_pos c4] at H
     have c4b0 : decide (x5_1 < (l0.length : Int)) = true := decide_eq_true c4
     clear c4
     by_cases c5 : 0 ≤ x5_1
     ·
      rw [if_pos c5] at H
      have c5b0 : decide (0 ≤ x5_1) = true := decide_eq_true c5
      clear c5
      by_cases c6 : x5_1 < (l1.length : Int)
      ·
       rw [if_pos c6] at H
       have c6b0 : decide (x5_1 < (l1.length : Int)) = true := decide_eq_true c6
       clear c6
       replace H := Option.bind_eq_some_iff.mp H
       obtain ⟨t199, A70, H⟩ := H
       replace H : (if t199 = true then (laws_sameRecords.l0 k1 l0 l1 (wrap64 (x5_1 + 1))) else (some false)) = some r := H
       have A7 := zzm A70
       clear A70
       by_cases c8 : t199 = true
       ·
        subst c8
        have H1 : (laws_sameRecords.l0 k1 l0 l1 (wrap64 (x5_1 + 1))) = some r := by rw [if_pos rfl] at H; exact H
        clear H
        have H := H1
        clear H1
        have H' := zzm H
        clear H
        try go_wp2
        have n0_ := zzm (zzc HB.out)
        clear HB
        have HB := n0_
        clear n0_
        have p197 : 0 ≤ (x5_1 : Int) := of_decide_eq_true (by first | (with_reducible assumption) | assumption)
        have q197 : x5_1 < (l0.length : Int) := of_decide_eq_true (by first | (with_reducible assumption) | assumption)
        obtain ⟨ad197, A197_3, c197_3, A197_5, c197_5, e197, hx197_0, hx197_1, hx197_2, hx197_3, hx197_4, hx197_5, hl197_3, hi197_3, hl197_5, hi197_5⟩ := at_T34 HR0.out x5_1 p197 q197
        have hw197_5 := hx197_5
        have hw197_4 := hx197_4
        have hw197_3 := hx197_3
        have hw197_2 := hx197_2
        have hw197_1 := hx197_1
        have hw197_0 := hx197_0
        cases e197
        replace hx197_0 := (HB.out.cell (zzn w _ hx197_0)).trans hx197_0
        replace hx197_1 := (HB.out.cell (zzn w _ hx197_1)).trans hx197_1
        replace hx197_2 := (HB.out.cell (zzn w _ hx197_2)).trans hx197_2
        replace hx197_3 := (HB.out.cell (zzn w _ hx197_3)).trans hx197_3
        replace hx197_4 := (HB.out.cell (zzn w _ hx197_4)).trans hx197_4
        replace hx197_5 := (HB.out.cell (zzn w _ hx197_5)).trans hx197_5
        have HR197_3 := zzm hi197_3
        have HC197_3 := zzm hl197_3
        clear hi197_3 hl197_3
        have HR197_5 := zzm hi197_5
        have HC197_5 := zzm hl197_5
        clear hi197_5 hl197_5
        replace p197 := eq_true p197
        replace q197 := eq_true q197
        have p198 : 0 ≤ (x5_1 : Int) := of_decide_eq_true (by first | (with_reducible assumption) | assumption)
        have q198 : x5_1 < (l1.length : Int) := of_decide_eq_true (by first | (with_reducible assumption) | assumption)
        obtain ⟨ad198, A198_3, c198_3, A198_5, c198_5, e198, hx198_0, hx198_1, hx198_2, hx198_3, hx198_4, hx198_5, hl198_3, hi198_3, hl198_5, hi198_5⟩ := at_T34 HR1.out x5_1 p198 q198
        have hw198_5 := hx198_5
        have hw198_4 := hx198_4
        have hw198_3 := hx198_3
        have hw198_2 := hx198_2
        have hw198_1 := hx198_1
        have hw198_0 := hx198_0
        cases e198
        replace hx198_0 := (HB.out.cell (zzn w _ hx198_0)).trans hx198_0
        replace hx198_1 := (HB.out.cell (zzn w _ hx198_1)).trans hx198_1
        replace hx198_2 := (HB.out.cell (zzn w _ hx198_2)).trans hx198_2
        replace hx198_3 := (HB.out.cell (zzn w _ hx198_3)).trans hx198_3
        replace hx198_4 := (HB.out.cell (zzn w _ hx198_4)).trans hx198_4
        replace hx198_5 := (HB.out.cell (zzn w _ hx198_5)).trans hx198_5
        have HR198_3 := zzm hi198_3
        have HC198_3 := zzm hl198_3
        clear hi198_3 hl198_3
        have HR198_5 := zzm hi198_5
        have HC198_5 := zzm hl198_5
        clear hi198_5 hl198_5
        replace p198 := eq_true p198
        replace q198 := eq_true q198
        refine start_ (n := 10) (S := fun w' => w'.cell? (ad197.add ((x5_1).toNat * 6)) = some (.int .i64 ((rd_T34 l0 x5_1).f0)) ∧ w'.cell? ⟨(ad197.add ((x5_1).toNat * 6)).block, (ad197.add ((x5_1).toNat * 6)).off + 1, none⟩ = some (.int .i64 ((rd_T34 l0 x5_1).f1)) ∧ w'.cell? ⟨(ad197.add ((x5_1).toNat * 6)).block, (ad197.add ((x5_1).toNat * 6)).off + 2, none⟩ = some (.bool ((rd_T34 l0 x5_1).f2)) ∧ w'.cell? ⟨(ad197.add ((x5_1).toNat * 6)).block, (ad197.add ((x5_1).toNat * 6)).off + 3, none⟩ = some (.slice A197_3 ((rd_T34 l0 x5_1).f3).length c197_3) ∧ w'.cell? ⟨(ad197.add ((x5_1).toNat * 6)).block, (ad197.add ((x5_1).toNat * 6)).off + 4, none⟩ = some (.bool ((rd_T34 l0 x5_1).f4)) ∧ w'.cell? ⟨(ad197.add ((x5_1).toNat * 6)).block, (ad197.add ((x5_1).toNat * 6)).off + 5, none⟩ = some (.slice A197_5 ((rd_T34 l0 x5_1).f5).length c197_5) ∧ w'.cell? (ad198.add ((x5_1).toNat * 6)) = some (.int .i64 ((rd_T34 l1 x5_1).f0)) ∧ w'.cell? ⟨(ad198.add ((x5_1).toNat * 6)).block, (ad198.add ((x5_1).toNat * 6)).off + 1, none⟩ = some (.int .i64 ((rd_T34 l1 x5_1).f1)) ∧ w'.cell? ⟨(ad198.add ((x5_1).toNat * 6)).block, (ad198.add ((x5_1).toNat * 6)).off + 2, none⟩ = some (.bool ((rd_T34 l1 x5_1).f2)) ∧ w'.cell? ⟨(ad198.add ((x5_1).toNat * 6)).block, (ad198.add ((x5_1).toNat * 6)).off + 3, none⟩ = some (.slice A198_3 ((rd_T34 l1 x5_1).f3).length c198_3) ∧ w'.cell? ⟨(ad198.add ((x5_1).toNat * 6)).block, (ad198.add ((x5_1).toNat * 6)).off + 4, none⟩ = some (.bool ((rd_T34 l1 x5_1).f4)) ∧ w'.cell? ⟨(ad198.add ((x5_1).toNat * 6)).block, (ad198.add ((x5_1).toNat * 6)).off + 5, none⟩ = some (.slice A198_5 ((rd_T34 l1 x5_1).f5).length c198_5)) (ds := []) #[false, false, false, false, false, false, false, false, false, false] (by kernel_rfl) rfl rfl ⟨((HB.out.cell (zzn w _ hw197_0)).trans hw197_0), ((HB.out.cell (zzn w _ hw197_1)).trans hw197_1), ((HB.out.cell (zzn w _ hw197_2)).trans hw197_2), ((HB.out.cell (zzn w _ hw197_3)).trans hw197_3), ((HB.out.cell (zzn w _ hw197_4)).trans hw197_4), ((HB.out.cell (zzn w _ hw197_5)).trans hw197_5), ((HB.out.cell (zzn w _ hw198_0)).trans hw198_0), ((HB.out.cell (zzn w _ hw198_1)).trans hw198_1), ((HB.out.cell (zzn w _ hw198_2)).trans hw198_2), ((HB.out.cell (zzn w _ hw198_3)).trans hw198_3), ((HB.out.cell (zzn w _ hw198_4)).trans hw198_4), ((HB.out.cell (zzn w _ hw198_5)).trans hw198_5)⟩ (fun hHeld => ?_); refine with_tabW laws_sameRecords.tab6 laws_sameRecords.bits6 (fun HT_ HW_ => ?_)
        generalize wr.drew = w9 at HB HR197_3 HR197_5 HR198_3 HR198_5 hx197_0 hx197_1 hx197_2 hx197_3 hx197_4 hx197_5 hx198_0 hx198_1 hx198_2 hx198_3 hx198_4 hx198_5 hHeld ⊢
        refine pure_ (i := 0) (N := some 17) (v := ?_) (a' := ?_) #[true, false, false, false, false, false, false, false, false, false] rfl rfl (any_of HT_.out (by kernel_rfl)) (fun _ _ _ h => h) (Or.inl ⟨by rfl, ?_⟩) ?_ ?_
        rotate_left
        ·
         intro w'
         go_simp
         with_reducible rfl
        rotate_left
        ·
         simp only [Act.put, zzq, zzr, zzs, i64_w, i32_w]
         rfl
        refine pure_ (i := 1) (N := some 18) (v := ?_) (a' := ?_) #[true, true, false, false, false, false, false, false, false, false] rfl rfl (any_of HT_.out (by kernel_rfl)) (fun _ _ _ h => h) (Or.inl ⟨by rfl, ?_⟩) ?_ ?_
        rotate_left
        ·
         intro w'
         go_simp
         with_reducible rfl
        rotate_left
        ·
         simp only [Act.put, zzq, zzr, zzs, i64_w, i32_w]
         rfl
        refine pure_ (i := 2) (N := some 19) (v := ?_) (a' := ?_) #[true, true, true, false, false, false, false, false, false, false] rfl rfl (any_of HT_.out (by kernel_rfl)) (fun _ _ _ h => h) (Or.inl ⟨by rfl, ?_⟩) ?_ ?_
        rotate_left
        ·
         intro w'
         go_simp
         with_reducible rfl
        rotate_left
        ·
         simp only [Act.put, zzq, zzr, zzs, i64_w, i32_w]
         rfl
        refine pure_ (i := 4) (N := some 21) (v := ?_) (a' := ?_) #[true, true, true, false, true, false, false, false, false, false] rfl rfl (any_of HT_.out (by kernel_rfl)) (fun _ _ _ h => h) (Or.inl ⟨by rfl, ?_⟩) ?_ ?_
        rotate_left
        ·
         intro w'
         go_simp
         with_reducible rfl
        rotate_left
        ·
         simp only [Act.put, zzq, zzr, zzs, i64_w, i32_w]
         rfl
        refine pure_ (i := 5) (N := some 22) (v := ?_) (a' := ?_) #[true, true, true, false, true, true, false, false, false, false] rfl rfl (any_of HT_.out (by kernel_rfl)) (fun _ _ _ h => h) (Or.inl ⟨by rfl, ?_⟩) ?_ ?_
        rotate_left
        ·
         intro w'
         go_simp
         with_reducible rfl
        rotate_left
        ·
         simp only [Act.put, zzq, zzr, zzs, i64_w, i32_w]
         rfl
        refine pure_ (i := 6) (N := some 23) (v := ?_) (a' := ?_) #[true, true, true, false, true, true, true, false, false, false] rfl rfl (any_of HT_.out (by kernel_rfl)) (fun _ _ _ h => h) (Or.inl ⟨by rfl, ?_⟩) ?_ ?_
        rotate_left
        ·
         intro w'
         go_simp
         with_reducible rfl
        rotate_left
        ·
         simp only [Act.put, zzq, zzr, zzs, i64_w, i32_w]
         rfl
        refine take_ (i := 3) (N := some 20) (v := ?_) (a' := ?_) #[true, true, true, true, true, true, true, false, false, false] rfl rfl (take_ofW HT_.out HW_.out (by kernel_rfl)) (fun _ _ _ h => h) (Or.inl ⟨by rfl, ?_⟩) hHeld ?_ ?_
        rotate_left
        ·
         rintro w' ⟨s0, s1, s2, s3, s4, s5, s6, s7, s8, s9, s10, s11⟩
         go_simp
         with_reducible rfl
        rotate_left
        ·
         simp only [Act.put, zzq, zzr, zzs, i64_w, i32_w]
         rfl
        refine take_ (i := 7) (N := some 24) (v := ?_) (a' := ?_) #[true, true, true, true, true, true, true, true, false, false] rfl rfl (take_ofW HT_.out HW_.out (by kernel_rfl)) (fun _ _ _ h => h) (Or.inl ⟨by rfl, ?_⟩) hHeld ?_ ?_
        rotate_left
        ·
         rintro w' ⟨s0, s1, s2, s3, s4, s5, s6, s7, s8, s9, s10, s11⟩
         go_simp
         with_reducible rfl
        rotate_left
        ·
         simp only [Act.put, zzq, zzr, zzs, i64_w, i32_w]
         rfl
        refine one_ (i := 8) (N := some 25) #[true, true, true, true, true, true, true, true, true, false] rfl rfl (one_of HT_.out (by kernel_rfl)) (by decide) (fun K hK => ?_)
        refine goes_ Try.func23 (by kernel_rfl) rfl #[.agg #[.int .i64 ((rd_T34 l0 x5_1).f0), .int .i64 ((rd_T34 l0 x5_1).f1), .bool ((rd_T34 l0 x5_1).f2), .slice A197_3 ((rd_T34 l0 x5_1).f3).length c197_3, .bool ((rd_T34 l0 x5_1).f4), .slice A197_5 ((rd_T34 l0 x5_1).f5).length c197_5], .agg #[.int .i64 ((rd_T34 l1 x5_1).f0), .int .i64 ((rd_T34 l1 x5_1).f1), .bool ((rd_T34 l1 x5_1).f2), .slice A198_3 ((rd_T34 l1 x5_1).f3).length c198_3, .bool ((rd_T34 l1 x5_1).f4), .slice A198_5 ((rd_T34 l1 x5_1).f5).length c198_5]] (by rfl) rfl rfl (by (try simp only [List.map_toArray, List.map_cons, List.map_nil]); first | done | rfl | (simp only [List.length_drop, List.length_take]; rfl)) ?_
        with_reducible refine (laws_sameRecord.calls k1 ((rd_T34 l0 x5_1).f0) ((rd_T34 l0 x5_1).f1) ((rd_T34 l0 x5_1).f2) _ _ ((rd_T34 l0 x5_1).f3) ((rd_T34 l0 x5_1).f4) _ _ ((rd_T34 l0 x5_1).f5) ((rd_T34 l1 x5_1).f0) ((rd_T34 l1 x5_1).f1) ((rd_T34 l1 x5_1).f2) _ _ ((rd_T34 l1 x5_1).f3) ((rd_T34 l1 x5_1).f4) _ _ ((rd_T34 l1 x5_1).f5) true _ ?side1 ?side2 ?side3 ?side4 ?side5 ?side6 ?side7 ?side8 A7.out).mono ?_
        (case side1 => repeat (first | exact (Kd.C_below HR197_3.out HB.out) | (with_reducible refine Kd.C_alloc ?_ _) | (with_reducible refine Kd.C_drewN ?_ _) | (with_reducible refine Kd.C_drew ?_)))
        (case side2 => exact HC197_3.out)
        (case side3 => repeat (first | exact (Kd.C_below HR197_5.out HB.out) | (with_reducible refine Kd.C_alloc ?_ _) | (with_reducible refine Kd.C_drewN ?_ _) | (with_reducible refine Kd.C_drew ?_)))
        (case side4 => exact HC197_5.out)
        (case side5 => repeat (first | exact (Kd.C_below HR198_3.out HB.out) | (with_reducible refine Kd.C_alloc ?_ _) | (with_reducible refine Kd.C_drewN ?_ _) | (with_reducible refine Kd.C_drew ?_)))
        (case side6 => exact HC198_3.out)
        (case side7 => repeat (first | exact (Kd.C_below HR198_5.out HB.out) | (with_reducible refine Kd.C_alloc ?_ _) | (with_reducible refine Kd.C_drewN ?_ _) | (with_reducible refine Kd.C_drew ?_)))
        (case side8 => exact HC198_5.out)
        rintro e w10 ⟨rfl, hb⟩
        refine ⟨_, rfl, ?_⟩
        have n0_ := zzm (zzp (by repeat (first | (with_reducible first | exact HB.out | apply zza | apply zzb | apply zzc) | exact HB.out)) hb)
        clear HB
        have HB := n0_
        clear n0_
        (try clear hb)
        (try clear hb2)
        (try clear hk)
        (try clear hi)
        refine hK.out _ _ ⟨((HB.out.cell (zzn w _ hw197_0)).trans hw197_0), ((HB.out.cell (zzn w _ hw197_1)).trans hw197_1), ((HB.out.cell (zzn w _ hw197_2)).trans hw197_2), ((HB.out.cell (zzn w _ hw197_3)).trans hw197_3), ((HB.out.cell (zzn w _ hw197_4)).trans hw197_4), ((HB.out.cell (zzn w _ hw197_5)).trans hw197_5), ((HB.out.cell (zzn w _ hw198_0)).trans hw198_0), ((HB.out.cell (zzn w _ hw198_1)).trans hw198_1), ((HB.out.cell (zzn w _ hw198_2)).trans hw198_2), ((HB.out.cell (zzn w _ hw198_3)).trans hw198_3), ((HB.out.cell (zzn w _ hw198_4)).trans hw198_4), ((HB.out.cell (zzn w _ hw198_5)).trans hw198_5)⟩ (fun hHeld => ?_)
        clear hK K
        refine norm_ (a' := ?_) ?_ ?_
        rotate_left
        ·
         show Act.put _ (some 25) _ = _
         simp only [Act.put, zzq, zzr, zzs, i64_w, i32_w]
         rfl
        refine pure_ (i := 9) (N := some 26) (v := ?_) (a' := ?_) #[true, true, true, true, true, true, true, true, true, true] rfl rfl (any_of HT_.out (by kernel_rfl)) (fun _ _ _ h => h) (Or.inl ⟨by rfl, ?_⟩) ?_ ?_
        rotate_left
        ·
         intro w'
         go_simp
         with_reducible rfl
        rotate_left
        ·
         simp only [Act.put, zzq, zzr, zzs, i64_w, i32_w]
         rfl
        refine done_ (done_of HT_.out (by kernel_rfl)) ?_
        try go_wp2
        go_roundg k1
        case measure => have := HK1.out; omega
        case rel => exact ⟨(wrap64 (x5_1 + 1)), (by first | rfl | (simp; done) | (simp [*]; done)), H', ⟨by have := HK1.out; omega⟩, ⟨by repeat (first | (with_reducible first | exact HB.out | apply zza | apply zzb | apply zzc) | exact HB.out)⟩⟩
       ·
        replace c8 := Bool.eq_false_iff.mpr c8
        subst c8
        have H1 : (some false) = some r := by rw [if_neg (show ¬ (false = true) by decide)] at H; exact H
        clear H
        have H := H1
        clear H1
        obtain rfl := Option.some.inj H
        try go_wp2
        have n0_ := zzm (zzc HB.out)
        clear HB
        have HB := n0_
        clear n0_
        have p197 : 0 ≤ (x5_1 : Int) := of_decide_eq_true (by first | (with_reducible assumption) | assumption)
        have q197 : x5_1 < (l0.length : Int) := of_decide_eq_true (by first | (with_reducible assumption) | assumption)
        obtain ⟨ad197, A197_3, c197_3, A197_5, c197_5, e197, hx197_0, hx197_1, hx197_2, hx197_3, hx197_4, hx197_5, hl197_3, hi197_3, hl197_5, hi197_5⟩ := at_T34 HR0.out x5_1 p197 q197
        have hw197_5 := hx197_5
        have hw197_4 := hx197_4
        have hw197_3 := hx197_3
        have hw197_2 := hx197_2
        have hw197_1 := hx197_1
        have hw197_0 := hx197_0
        cases e197
        replace hx197_0 := (HB.out.cell (zzn w _ hx197_0)).trans hx197_0
        replace hx197_1 := (HB.out.cell (zzn w _ hx197_1)).trans hx197_1
        replace hx197_2 := (HB.out.cell (zzn w _ hx197_2)).trans hx197_2
        replace hx197_3 := (HB.out.cell (zzn w _ hx197_3)).trans hx197_3
        replace hx197_4 := (HB.out.cell (zzn w _ hx197_4)).trans hx197_4
        replace hx197_5 := (HB.out.cell (zzn w _ hx197_5)).trans hx197_5
        have HR197_3 := zzm hi197_3
        have HC197_3 := zzm hl197_3
        clear hi197_3 hl197_3
        have HR197_5 := zzm hi197_5
        have HC197_5 := zzm hl197_5
        clear hi197_5 hl197_5
        replace p197 := eq_true p197
        replace q197 := eq_true q197
        have p198 : 0 ≤ (x5_1 : Int) := of_decide_eq_true (by first | (with_reducible assumption) | assumption)
        have q198 : x5_1 < (l1.length : Int) := of_decide_eq_true (by first | (with_reducible assumption) | assumption)
        obtain ⟨ad198, A198_3, c198_3, A198_5, c198_5, e198, hx198_0, hx198_1, hx198_2, hx198_3, hx198_4, hx198_5, hl198_3, hi198_3, hl198_5, hi198_5⟩ := at_T34 HR1.out x5_1 p198 q198
        have hw198_5 := hx198_5
        have hw198_4 := hx198_4
        have hw198_3 := hx198_3
        have hw198_2 := hx198_2
        have hw198_1 := hx198_1
        have hw198_0 := hx198_0
        cases e198
        replace hx198_0 := (HB.out.cell (zzn w _ hx198_0)).trans hx198_0
        replace hx198_1 := (HB.out.cell (zzn w _ hx198_1)).trans hx198_1
        replace hx198_2 := (HB.out.cell (zzn w _ hx198_2)).trans hx198_2
        replace hx198_3 := (HB.out.cell (zzn w _ hx198_3)).trans hx198_3
        replace hx198_4 := (HB.out.cell (zzn w _ hx198_4)).trans hx198_4
        replace hx198_5 := (HB.out.cell (zzn w _ hx198_5)).trans hx198_5
        have HR198_3 := zzm hi198_3
        have HC198_3 := zzm hl198_3
        clear hi198_3 hl198_3
        have HR198_5 := zzm hi198_5
        have HC198_5 := zzm hl198_5
        clear hi198_5 hl198_5
        replace p198 := eq_true p198
        replace q198 := eq_true q198
        refine start_ (n := 10) (S := fun w' => w'.cell? (ad197.add ((x5_1).toNat * 6)) = some (.int .i64 ((rd_T34 l0 x5_1).f0)) ∧ w'.cell? ⟨(ad197.add ((x5_1).toNat * 6)).block, (ad197.add ((x5_1).toNat * 6)).off + 1, none⟩ = some (.int .i64 ((rd_T34 l0 x5_1).f1)) ∧ w'.cell? ⟨(ad197.add ((x5_1).toNat * 6)).block, (ad197.add ((x5_1).toNat * 6)).off + 2, none⟩ = some (.bool ((rd_T34 l0 x5_1).f2)) ∧ w'.cell? ⟨(ad197.add ((x5_1).toNat * 6)).block, (ad197.add ((x5_1).toNat * 6)).off + 3, none⟩ = some (.slice A197_3 ((rd_T34 l0 x5_1).f3).length c197_3) ∧ w'.cell? ⟨(ad197.add ((x5_1).toNat * 6)).block, (ad197.add ((x5_1).toNat * 6)).off + 4, none⟩ = some (.bool ((rd_T34 l0 x5_1).f4)) ∧ w'.cell? ⟨(ad197.add ((x5_1).toNat * 6)).block, (ad197.add ((x5_1).toNat * 6)).off + 5, none⟩ = some (.slice A197_5 ((rd_T34 l0 x5_1).f5).length c197_5) ∧ w'.cell? (ad198.add ((x5_1).toNat * 6)) = some (.int .i64 ((rd_T34 l1 x5_1).f0)) ∧ w'.cell? ⟨(ad198.add ((x5_1).toNat * 6)).block, (ad198.add ((x5_1).toNat * 6)).off + 1, none⟩ = some (.int .i64 ((rd_T34 l1 x5_1).f1)) ∧ w'.cell? ⟨(ad198.add ((x5_1).toNat * 6)).block, (ad198.add ((x5_1).toNat * 6)).off + 2, none⟩ = some (.bool ((rd_T34 l1 x5_1).f2)) ∧ w'.cell? ⟨(ad198.add ((x5_1).toNat * 6)).block, (ad198.add ((x5_1).toNat * 6)).off + 3, none⟩ = some (.slice A198_3 ((rd_T34 l1 x5_1).f3).length c198_3) ∧ w'.cell? ⟨(ad198.add ((x5_1).toNat * 6)).block, (ad198.add ((x5_1).toNat * 6)).off + 4, none⟩ = some (.bool ((rd_T34 l1 x5_1).f4)) ∧ w'.cell? ⟨(ad198.add ((x5_1).toNat * 6)).block, (ad198.add ((x5_1).toNat * 6)).off + 5, none⟩ = some (.slice A198_5 ((rd_T34 l1 x5_1).f5).length c198_5)) (ds := []) #[false, false, false, false, false, false, false, false, false, false] (by kernel_rfl) rfl rfl ⟨((HB.out.cell (zzn w _ hw197_0)).trans hw197_0), ((HB.out.cell (zzn w _ hw197_1)).trans hw197_1), ((HB.out.cell (zzn w _ hw197_2)).trans hw197_2), ((HB.out.cell (zzn w _ hw197_3)).trans hw197_3), ((HB.out.cell (zzn w _ hw197_4)).trans hw197_4), ((HB.out.cell (zzn w _ hw197_5)).trans hw197_5), ((HB.out.cell (zzn w _ hw198_0)).trans hw198_0), ((HB.out.cell (zzn w _ hw198_1)).trans hw198_1), ((HB.out.cell (zzn w _ hw198_2)).trans hw198_2), ((HB.out.cell (zzn w _ hw198_3)).trans hw198_3), ((HB.out.cell (zzn w _ hw198_4)).trans hw198_4), ((HB.out.cell (zzn w _ hw198_5)).trans hw198_5)⟩ (fun hHeld => ?_); refine with_tabW laws_sameRecords.tab6 laws_sameRecords.bits6 (fun HT_ HW_ => ?_)
        generalize wr.drew = w11 at HB HR197_3 HR197_5 HR198_3 HR198_5 hx197_0 hx197_1 hx197_2 hx197_3 hx197_4 hx197_5 hx198_0 hx198_1 hx198_2 hx198_3 hx198_4 hx198_5 hHeld ⊢
        refine pure_ (i := 0) (N := some 17) (v := ?_) (a' := ?_) #[true, false, false, false, false, false, false, false, false, false] rfl rfl (any_of HT_.out (by kernel_rfl)) (fun _ _ _ h => h) (Or.inl ⟨by rfl, ?_⟩) ?_ ?_
        rotate_left
        ·
         intro w'
         go_simp
         with_reducible rfl
        rotate_left
        ·
         simp only [Act.put, zzq, zzr, zzs, i64_w, i32_w]
         rfl
        refine pure_ (i := 1) (N := some 18) (v := ?_) (a' := ?_) #[true, true, false, false, false, false, false, false, false, false] rfl rfl (any_of HT_.out (by kernel_rfl)) (fun _ _ _ h => h) (Or.inl ⟨by rfl, ?_⟩) ?_ ?_
        rotate_left
        ·
         intro w'
         go_simp
         with_reducible rfl
        rotate_left
        ·
         simp only [Act.put, zzq, zzr, zzs, i64_w, i32_w]
         rfl
        refine pure_ (i := 2) (N := some 19) (v := ?_) (a' := ?_) #[true, true, true, false, false, false, false, false, false, false] rfl rfl (any_of HT_.out (by kernel_rfl)) (fun _ _ _ h => h) (Or.inl ⟨by rfl, ?_⟩) ?_ ?_
        rotate_left
        ·
         intro w'
         go_simp
         with_reducible rfl
        rotate_left
        ·
         simp only [Act.put, zzq, zzr, zzs, i64_w, i32_w]
         rfl
        refine pure_ (i := 4) (N := some 21) (v := ?_) (a' := ?_) #[true, true, true, false, true, false, false, false, false, false] rfl rfl (any_of HT_.out (by kernel_rfl)) (fun _ _ _ h => h) (Or.inl ⟨by rfl, ?_⟩) ?_ ?_
        rotate_left
        ·
         intro w'
         go_simp
         with_reducible rfl
        rotate_left
        ·
         simp only [Act.put, zzq, zzr, zzs, i64_w, i32_w]
         rfl
        refine pure_ (i := 5) (N := some 22) (v := ?_) (a' := ?_) #[true, true, true, false, true, true, false, false, false, false] rfl rfl (any_of HT_.out (by kernel_rfl)) (fun _ _ _ h => h) (Or.inl ⟨by rfl, ?_⟩) ?_ ?_
        rotate_left
        ·
         intro w'
         go_simp
         with_reducible rfl
        rotate_left
        ·
         simp only [Act.put, zzq, zzr, zzs, i64_w, i32_w]
         rfl
        refine pure_ (i := 6) (N := some 23) (v := ?_) (a' := ?_) #[true, true, true, false, true, true, true, false, false, false] rfl rfl (any_of HT_.out (by kernel_rfl)) (fun _ _ _ h => h) (Or.inl ⟨by rfl, ?_⟩) ?_ ?_
        rotate_left
        ·
         intro w'
         go_simp
         with_reducible rfl
        rotate_left
        ·
         simp only [Act.put, zzq, zzr, zzs, i64_w, i32_w]
         rfl
        refine take_ (i := 3) (N := some 20) (v := ?_) (a' := ?_) #[true, true, true, true, true, true, true, false, false, false] rfl rfl (take_ofW HT_.out HW_.out (by kernel_rfl)) (fun _ _ _ h => h) (Or.inl ⟨by rfl, ?_⟩) hHeld ?_ ?_
        rotate_left
        ·
         rintro w' ⟨s0, s1, s2, s3, s4, s5, s6, s7, s8, s9, s10, s11⟩
         go_simp
         with_reducible rfl
        rotate_left
        ·
         simp only [Act.put, zzq, zzr, zzs, i64_w, i32_w]
         rfl
        refine take_ (i := 7) (N := some 24) (v := ?_) (a' := ?_) #[true, true, true, true, true, true, true, true, false, false] rfl rfl (take_ofW HT_.out HW_.out (by kernel_rfl)) (fun _ _ _ h => h) (Or.inl ⟨by rfl, ?_⟩) hHeld ?_ ?_
        rotate_left
        ·
         rintro w' ⟨s0, s1, s2, s3, s4, s5, s6, s7, s8, s9, s10, s11⟩
         go_simp
         with_reducible rfl
        rotate_left
        ·
         simp only [Act.put, zzq, zzr, zzs, i64_w, i32_w]
         rfl
        refine one_ (i := 8) (N := some 25) #[true, true, true, true, true, true, true, true, true, false] rfl rfl (one_of HT_.out (by kernel_rfl)) (by decide) (fun K hK => ?_)
        refine goes_ Try.func23 (by kernel_rfl) rfl #[.agg #[.int .i64 ((rd_T34 l0 x5_1).f0), .int .i64 ((rd_T34 l0 x5_1).f1), .bool ((rd_T34 l0 x5_1).f2), .slice A197_3 ((rd_T34 l0 x5_1).f3).length c197_3, .bool ((rd_T34 l0 x5_1).f4), .slice A197_5 ((rd_T34 l0 x5_1).f5).length c197_5], .agg #[.int .i64 ((rd_T34 l1 x5_1).f0), .int .i64 ((rd_T34 l1 x5_1).f1), .bool ((rd_T34 l1 x5_1).f2), .slice A198_3 ((rd_T34 l1 x5_1).f3).length c198_3, .bool ((rd_T34 l1 x5_1).f4), .slice A198_5 ((rd_T34 l1 x5_1).f5).length c198_5]] (by rfl) rfl rfl (by (try simp only [List.map_toArray, List.map_cons, List.map_nil]); first | done | rfl | (simp only [List.length_drop, List.length_take]; rfl)) ?_
        with_reducible refine (laws_sameRecord.calls k1 ((rd_T34 l0 x5_1).f0) ((rd_T34 l0 x5_1).f1) ((rd_T34 l0 x5_1).f2) _ _ ((rd_T34 l0 x5_1).f3) ((rd_T34 l0 x5_1).f4) _ _ ((rd_T34 l0 x5_1).f5) ((rd_T34 l1 x5_1).f0) ((rd_T34 l1 x5_1).f1) ((rd_T34 l1 x5_1).f2) _ _ ((rd_T34 l1 x5_1).f3) ((rd_T34 l1 x5_1).f4) _ _ ((rd_T34 l1 x5_1).f5) false _ ?side1 ?side2 ?side3 ?side4 ?side5 ?side6 ?side7 ?side8 A7.out).mono ?_
        (case side1 => repeat (first | exact (Kd.C_below HR197_3.out HB.out) | (with_reducible refine Kd.C_alloc ?_ _) | (with_reducible refine Kd.C_drewN ?_ _) | (with_reducible refine Kd.C_drew ?_)))
        (case side2 => exact HC197_3.out)
        (case side3 => repeat (first | exact (Kd.C_below HR197_5.out HB.out) | (with_reducible refine Kd.C_alloc ?_ _) | (with_reducible refine Kd.C_drewN ?_ _) | (with_reducible refine Kd.C_drew ?_)))
        (case side4 => exact HC197_5.out)
        (case side5 => repeat (first | exact (Kd.C_below HR198_3.out HB.out) | (with_reducible refine Kd.C_alloc ?_ _) | (with_reducible refine Kd.C_drewN ?_ _) | (with_reducible refine Kd.C_drew ?_)))
        (case side6 => exact HC198_3.out)
        (case side7 => repeat (first | exact (Kd.C_below HR198_5.out HB.out) | (with_reducible refine Kd.C_alloc ?_ _) | (with_reducible refine Kd.C_drewN ?_ _) | (with_reducible refine Kd.C_drew ?_)))
        (case side8 => exact HC198_5.out)
        rintro e w12 ⟨rfl, hb⟩
        refine ⟨_, rfl, ?_⟩
        have n0_ := zzm (zzp (by repeat (first | (with_reducible first | exact HB.out | apply zza | apply zzb | apply zzc) | exact HB.out)) hb)
        clear HB
        have HB := n0_
        clear n0_
        (try clear hb)
        (try clear hb2)
        (try clear hk)
        (try clear hi)
        refine hK.out _ _ ⟨((HB.out.cell (zzn w _ hw197_0)).trans hw197_0), ((HB.out.cell (zzn w _ hw197_1)).trans hw197_1), ((HB.out.cell (zzn w _ hw197_2)).trans hw197_2), ((HB.out.cell (zzn w _ hw197_3)).trans hw197_3), ((HB.out.cell (zzn w _ hw197_4)).trans hw197_4), ((HB.out.cell (zzn w _ hw197_5)).trans hw197_5), ((HB.out.cell (zzn w _ hw198_0)).trans hw198_0), ((HB.out.cell (zzn w _ hw198_1)).trans hw198_1), ((HB.out.cell (zzn w _ hw198_2)).trans hw198_2), ((HB.out.cell (zzn w _ hw198_3)).trans hw198_3), ((HB.out.cell (zzn w _ hw198_4)).trans hw198_4), ((HB.out.cell (zzn w _ hw198_5)).trans hw198_5)⟩ (fun hHeld => ?_)
        clear hK K
        refine norm_ (a' := ?_) ?_ ?_
        rotate_left
        ·
         show Act.put _ (some 25) _ = _
         simp only [Act.put, zzq, zzr, zzs, i64_w, i32_w]
         rfl
        refine pure_ (i := 9) (N := some 26) (v := ?_) (a' := ?_) #[true, true, true, true, true, true, true, true, true, true] rfl rfl (any_of HT_.out (by kernel_rfl)) (fun _ _ _ h => h) (Or.inl ⟨by rfl, ?_⟩) ?_ ?_
        rotate_left
        ·
         intro w'
         go_simp
         with_reducible rfl
        rotate_left
        ·
         simp only [Act.put, zzq, zzr, zzs, i64_w, i32_w]
         rfl
        refine done_ (done_of HT_.out (by kernel_rfl)) ?_
        try go_wp2
        go_ret
        exact ⟨by first | rfl | (simp [errW_none, errW_some] <;> rfl) | (simp [*, errW_none, errW_some] <;> rfl), by repeat (first | (with_reducible first | exact HB.out | apply zza | apply zzb | apply zzc) | exact HB.out)⟩
      ·
       rw [if_neg c6] at H
       exact absurd H (by simp)
     ·
      rw [if_neg c5] at H
      exact absurd H (by simp)
    ·
     rw [if_neg c4] at H
     have c4b0 : decide (x5_1 < (l0.length : Int)) = false := decide_eq_false c4
     clear c4
     obtain rfl := Option.some.inj H
     go_wp2
     go_ret
     exact ⟨by first | rfl | (simp [errW_none, errW_some] <;> rfl) | (simp [*, errW_none, errW_some] <;> rfl), by repeat (first | (with_reducible first | exact HB.out | apply zza | apply zzb | apply zzc) | exact HB.out)⟩
 ·
  rw [if_neg c3] at H
  have c3b0 : ((l0.length : Int) == (l1.length : Int)) = false := beq_eq_false_iff_ne.mpr c3
  have c3b1 : ((l0.length : Int) != (l1.length : Int)) = true := bne_iff_ne.mpr c3
  have c3b2 : (l0.length == l1.length) = false := by first | simpa using c3 | (simp at c3 ⊢; omega)
  obtain rfl := Option.some.inj H
  go_enter Try.func36, Try.ntmps36
  go_wp2
  go_ret
  exact ⟨by first | rfl | (simp [errW_none, errW_some] <;> rfl) | (simp [*, errW_none, errW_some] <;> rfl), by repeat (first | (with_reducible first | exact HB.out | apply zza | apply zzb | apply zzc) | exact HB.out)⟩
end Go.Proofs.Yticpnjhkdfdkkaa.T
namespace Go.Proofs.Yticpnjhkdfdkkaa.T
open Go.RowKit Go.Proofs.YticpnjhkdfdkkaaW.PrintWords Go.Proofs.YticpnjhkdfdkkaaW.PrintLast Go.Proofs.YticpnjhkdfdkkaaW.PrintMore

set_option linter.unusedVariables false
set_option linter.unusedSimpArgs false
def laws_sameBatch.f (k : Nat) (a0_0 : Bool) (a0_1 : Bool) (a0_2 : Int) (a0_3 : Int) (a0_4 : Int) (l0_5 : List (S34)) (a1_0 : Bool) (a1_1 : Bool) (a1_2 : Int) (a1_3 : Int) (a1_4 : Int) (l1_5 : List (S34)) : Option (Bool) := if (a0_0 == a1_0) = true then (if (a0_1 == a1_1) = true then (if a0_2 = a1_2 then (if a0_3 = a1_3 then (if a0_4 = a1_4 then ((laws_sameRecords.f k l0_5 l1_5).bind fun t202 => (some t202)) else (some false)) else (some false)) else (some false)) else (some false)) else (some false)
set_option maxHeartbeats 8000000 in
set_option maxRecDepth 100000 in
theorem laws_sameBatch.calls (k : Nat) (a0_0 : Bool) (a0_1 : Bool) (a0_2 : Int) (a0_3 : Int) (a0_4 : Int) (A0_5 : Option Addr) (c0_5 : Nat) (l0_5 : List (S34)) (a1_0 : Bool) (a1_1 : Bool) (a1_2 : Int) (a1_3 : Int) (a1_4 : Int) (A1_5 : Option Addr) (c1_5 : Nat) (l1_5 : List (S34)) (r : Bool) (w : World) (hr0_5 : Kd.C k34 w A0_5 l0_5.length l0_5) (hc0_5 : l0_5.length ≤ c0_5) (hr1_5 : Kd.C k34 w A1_5 l1_5.length l1_5) (hc1_5 : l1_5.length ≤ c1_5) (h : laws_sameBatch.f k a0_0 a0_1 a0_2 a0_3 a0_4 l0_5 a1_0 a1_1 a1_2 a1_3 a1_4 l1_5 = some r) :
  Calls Try.prog 21 #[.agg #[.bool a0_0, .bool a0_1, .int .i64 a0_2, .int .i64 a0_3, .int .i64 a0_4, .slice A0_5 l0_5.length c0_5], .agg #[.bool a1_0, .bool a1_1, .int .i64 a1_2, .int .i64 a1_3, .int .i64 a1_4, .slice A1_5 l1_5.length c1_5]] w fun e w' => e = .returned (.bool r) ∧ Below w.heap.size w w' := by
 have hu27 := Try.underlying27
 have HR0_5 := zzm hr0_5
 have HC0_5 := zzm hc0_5
 clear hr0_5 hc0_5
 have HR1_5 := zzm hr1_5
 have HC1_5 := zzm hc1_5
 clear hr1_5 hc1_5
 have HB := zzm (Below.refl w.heap.size w)
 have H : (if (a0_0 == a1_0) = true then (if (a0_1 == a1_1) = true then (if a0_2 = a1_2 then (if a0_3 = a1_3 then (if a0_4 = a1_4 then ((laws_sameRecords.f k l0_5 l1_5).bind fun t202 => (some t202)) else (some false)) else (some false)) else (some false)) else (some false)) else (some false)) = some r := h
 clear h
 by_cases c3 : (a0_0 == a1_0) = true
 ·
  rw [if_pos c3] at H
  have c3b0 : (a0_0 == a1_0) = true := c3
  (try (have c3b1 : decide (a0_0 = a1_0) = true := by simpa using c3))
  (try (have c3b2 : (a0_0 == a1_0) = true := by simpa using c3))
  clear c3
  by_cases c4 : (a0_1 == a1_1) = true
  ·
   rw [if_pos c4] at H
   have c4b0 : (a0_1 == a1_1) = true := c4
   (try (have c4b1 : decide (a0_1 = a1_1) = true := by simpa using c4))
   (try (have c4b2 : (a0_1 == a1_1) = true := by simpa using c4))
   clear c4
   by_cases c5 : a0_2 = a1_2
   ·
    rw [if_pos c5] at H
    have c5b0 : (a0_2 == a1_2) = true := beq_iff_eq.mpr c5
    have c5b1 : (a0_2 != a1_2) = false := bne_eq_false_iff_eq.mpr c5
    clear c5
    by_cases c6 : a0_3 = a1_3
    ·
     rw [if_pos c6] at H
     have c6b0 : (a0_3 == a1_3) = true := beq_iff_eq.mpr c6
     have c6b1 : (a0_3 != a1_3) = false := bne_eq_false_iff_eq.mpr c6
     clear c6
     by_cases c7 : a0_4 = a1_4
     ·
      rw [if_pos c7] at H
      have c7b0 : (a0_4 == a1_4) = true := beq_iff_eq.mpr c7
      have c7b1 : (a0_4 != a1_4) = false := bne_eq_false_iff_eq.mpr c7
      clear c7
      replace H := Option.bind_eq_some_iff.mp H
      obtain ⟨t202, A80, H⟩ := H
      replace H : (some t202) = some r := H
      have A8 := zzm A80
      clear A80
      obtain rfl := Option.some.inj H
      go_enter Try.func21, Try.ntmps21
      go_wp2_with (first | ((with_reducible refine gate_dst (N := 2) rfl ?_); refine box_event ?hg (N := 2) ?hd (cs := #[.bool a0_0, .bool a0_1, .int .i64 a0_2, .int .i64 a0_3, .int .i64 a0_4, .slice A0_5 l0_5.length c0_5]) (t := 27) ?hr ?_; (case hd => rfl); (case hg => rfl); (case hr => first | (go_simp; done) | (go_simp; rfl)); intro gb200 hg w9 hbox hb; have n0_ := zzm (zzp (by repeat (first | (with_reducible first | exact HB.out | apply zza | apply zzb | apply zzc) | exact HB.out)) hb); have n1_ := zzm (hbox); have n2_ := zzm ((by rw [hg]; exact (zzo (by repeat (first | (with_reducible first | exact HB.out | apply zza | apply zzb | apply zzc) | exact HB.out))) : w.heap.size ≤ gb200)); have n3_ := zzm ((by rw [hg]; exact (zzo (by repeat (first | (with_reducible first | exact HB.out | apply zza | apply zzb | apply zzc) | exact HB.out))) : w.heap.size ≤ gb200)); clear HB; have HB := n0_; have BK200 := n1_; have GW200 := n2_; have GE200 := n3_; clear n0_ n1_ n2_ n3_ hb hbox hg) | ((with_reducible refine gate_dst (N := 3) rfl ?_); refine box_event ?hg (N := 3) ?hd (cs := #[.bool a1_0, .bool a1_1, .int .i64 a1_2, .int .i64 a1_3, .int .i64 a1_4, .slice A1_5 l1_5.length c1_5]) (t := 27) ?hr ?_; (case hd => rfl); (case hg => rfl); (case hr => first | (go_simp; done) | (go_simp; rfl)); intro gb201 hg w10 hbox hb; have n0_ := zzm (zzh (g := gb200) (o := .cells #[.bool a0_0, .bool a0_1, .int .i64 a0_2, .int .i64 a0_3, .int .i64 a0_4, .slice A0_5 l0_5.length c0_5] 27 (0, 0)) (by (with_reducible repeat (first | refine zzf ?_ _ | refine zzg ?_ | refine zze ?_ _)); exact BK200.out) hb); have n1_ := zzm (zzp (by repeat (first | (with_reducible first | exact HB.out | apply zza | apply zzb | apply zzc | refine zzd ?_ GE200.out) | exact HB.out)) hb); have n2_ := zzm (hbox); have n3_ := zzm ((by rw [hg]; exact (zzo (by repeat (first | (with_reducible first | exact HB.out | apply zza | apply zzb | apply zzc | refine zzd ?_ GE200.out) | exact HB.out))) : w.heap.size ≤ gb201)); have n4_ := zzm ((by rw [hg]; exact (zzo (by repeat (first | (with_reducible first | exact HB.out | apply zza | apply zzb | apply zzc | refine zzd ?_ GE200.out) | exact HB.out))) : w.heap.size ≤ gb201)); have n5_ := zzm ((by rw [hg]; exact Nat.ne_of_lt (blk_lt (g := gb200) (o := .cells #[.bool a0_0, .bool a0_1, .int .i64 a0_2, .int .i64 a0_3, .int .i64 a0_4, .slice A0_5 l0_5.length c0_5] 27 (0, 0)) (by (with_reducible repeat (first | refine zzf ?_ _ | refine zzg ?_ | refine zze ?_ _)); exact BK200.out)) : gb200 ≠ gb201)); have n6_ := zzm ((by rw [hg]; exact Nat.ne_of_gt (blk_lt (g := gb200) (o := .cells #[.bool a0_0, .bool a0_1, .int .i64 a0_2, .int .i64 a0_3, .int .i64 a0_4, .slice A0_5 l0_5.length c0_5] 27 (0, 0)) (by (with_reducible repeat (first | refine zzf ?_ _ | refine zzg ?_ | refine zze ?_ _)); exact BK200.out)) : gb201 ≠ gb200)); clear BK200 HB; have BK200 := n0_; have HB := n1_; have BK201 := n2_; have GW201 := n3_; have GE201 := n4_; have NB200_201 := n5_; have NB201_200 := n6_; clear n0_ n1_ n2_ n3_ n4_ n5_ n6_ hb hbox hg; have hnb11 := NB200_201.out; have hnc11 := NB201_200.out; obtain ⟨hcz12_0, hcz12_1, hcz12_2, hcz12_3, hcz12_4, hcz12_5, hfz12_0, hfz12_1, hfz12_2, hfz12_3, hfz12_4, hfz12_5⟩ := zzc6 BK200.out; obtain ⟨hcz13_0, hcz13_1, hcz13_2, hcz13_3, hcz13_4, hcz13_5, hfz13_0, hfz13_1, hfz13_2, hfz13_3, hfz13_4, hfz13_5⟩ := zzc6 BK201.out) | (go_at_call 36; (with_reducible refine (laws_sameRecords.calls k _ _ l0_5 _ _ l1_5 t202 _ ?side1 ?side2 ?side3 ?side4 A8.out).mono ?_); (case side1 => repeat (first | exact (Kd.C_below HR0_5.out HB.out) | (with_reducible refine Kd.C_alloc ?_ _) | (with_reducible refine Kd.C_drewN ?_ _) | (with_reducible refine Kd.C_drew ?_))); (case side2 => exact HC0_5.out); (case side3 => repeat (first | exact (Kd.C_below HR1_5.out HB.out) | (with_reducible refine Kd.C_alloc ?_ _) | (with_reducible refine Kd.C_drewN ?_ _) | (with_reducible refine Kd.C_drew ?_))); (case side4 => exact HC1_5.out); rintro e w14 ⟨rfl, hb⟩; have n0_ := zzm (zzh (g := gb200) (o := .cells #[.bool a0_0, .bool a0_1, .int .i64 a0_2, .int .i64 a0_3, .int .i64 a0_4, .slice A0_5 l0_5.length c0_5] 27 (0, 0)) (by (with_reducible repeat (first | refine zzf ?_ _ | refine zzg ?_ | refine zze ?_ _)); exact BK200.out) hb); have n1_ := zzm (zzh (g := gb201) (o := .cells #[.bool a1_0, .bool a1_1, .int .i64 a1_2, .int .i64 a1_3, .int .i64 a1_4, .slice A1_5 l1_5.length c1_5] 27 (0, 0)) (by (with_reducible repeat (first | refine zzf ?_ _ | refine zzg ?_ | refine zze ?_ _)); exact BK201.out) hb); have n2_ := zzm (zzp (by repeat (first | (with_reducible first | exact HB.out | apply zza | apply zzb | apply zzc | refine zzd ?_ GE200.out | refine zzd ?_ GE201.out) | exact HB.out)) hb); clear BK200 BK201 HB; have BK200 := n0_; have BK201 := n1_; have HB := n2_; clear n0_ n1_ n2_; (try clear hb); (try clear hb2); (try clear hk); (try clear hi)))
      go_ret
      exact ⟨by first | rfl | (simp [errW_none, errW_some] <;> rfl) | (simp [*, errW_none, errW_some] <;> rfl), by repeat (first | (with_reducible first | exact HB.out | apply zza | apply zzb | apply zzc | refine zzd ?_ GE200.out | refine zzd ?_ GE201.out) | exact HB.out)⟩
     ·
      rw [if_neg c7] at H
      have c7b0 : (a0_4 == a1_4) = false := beq_eq_false_iff_ne.mpr c7
      have c7b1 : (a0_4 != a1_4) = true := bne_iff_ne.mpr c7
      obtain rfl := Option.some.inj H
      go_enter Try.func21, Try.ntmps21
      go_wp2_with (first | ((with_reducible refine gate_dst (N := 2) rfl ?_); refine box_event ?hg (N := 2) ?hd (cs := #[.bool a0_0, .bool a0_1, .int .i64 a0_2, .int .i64 a0_3, .int .i64 a0_4, .slice A0_5 l0_5.length c0_5]) (t := 27) ?hr ?_; (case hd => rfl); (case hg => rfl); (case hr => first | (go_simp; done) | (go_simp; rfl)); intro gb200 hg w15 hbox hb; have n0_ := zzm (zzp (by repeat (first | (with_reducible first | exact HB.out | apply zza | apply zzb | apply zzc) | exact HB.out)) hb); have n1_ := zzm (hbox); have n2_ := zzm ((by rw [hg]; exact (zzo (by repeat (first | (with_reducible first | exact HB.out | apply zza | apply zzb | apply zzc) | exact HB.out))) : w.heap.size ≤ gb200)); have n3_ := zzm ((by rw [hg]; exact (zzo (by repeat (first | (with_reducible first | exact HB.out | apply zza | apply zzb | apply zzc) | exact HB.out))) : w.heap.size ≤ gb200)); clear HB; have HB := n0_; have BK200 := n1_; have GW200 := n2_; have GE200 := n3_; clear n0_ n1_ n2_ n3_ hb hbox hg) | ((with_reducible refine gate_dst (N := 3) rfl ?_); refine box_event ?hg (N := 3) ?hd (cs := #[.bool a1_0, .bool a1_1, .int .i64 a1_2, .int .i64 a1_3, .int .i64 a1_4, .slice A1_5 l1_5.length c1_5]) (t := 27) ?hr ?_; (case hd => rfl); (case hg => rfl); (case hr => first | (go_simp; done) | (go_simp; rfl)); intro gb201 hg w16 hbox hb; have n0_ := zzm (zzh (g := gb200) (o := .cells #[.bool a0_0, .bool a0_1, .int .i64 a0_2, .int .i64 a0_3, .int .i64 a0_4, .slice A0_5 l0_5.length c0_5] 27 (0, 0)) (by (with_reducible repeat (first | refine zzf ?_ _ | refine zzg ?_ | refine zze ?_ _)); exact BK200.out) hb); have n1_ := zzm (zzp (by repeat (first | (with_reducible first | exact HB.out | apply zza | apply zzb | apply zzc | refine zzd ?_ GE200.out) | exact HB.out)) hb); have n2_ := zzm (hbox); have n3_ := zzm ((by rw [hg]; exact (zzo (by repeat (first | (with_reducible first | exact HB.out | apply zza | apply zzb | apply zzc | refine zzd ?_ GE200.out) | exact HB.out))) : w.heap.size ≤ gb201)); have n4_ := zzm ((by rw [hg]; exact (zzo (by repeat (first | (with_reducible first | exact HB.out | apply zza | apply zzb | apply zzc | refine zzd ?_ GE200.out) | exact HB.out))) : w.heap.size ≤ gb201)); have n5_ := zzm ((by rw [hg]; exact Nat.ne_of_lt (blk_lt (g := gb200) (o := .cells #[.bool a0_0, .bool a0_1, .int .i64 a0_2, .int .i64 a0_3, .int .i64 a0_4, .slice A0_5 l0_5.length c0_5] 27 (0, 0)) (by (with_reducible repeat (first | refine zzf ?_ _ | refine zzg ?_ | refine zze ?_ _)); exact BK200.out)) : gb200 ≠ gb201)); have n6_ := zzm ((by rw [hg]; exact Nat.ne_of_gt (blk_lt (g := gb200) (o := .cells #[.bool a0_0, .bool a0_1, .int .i64 a0_2, .int .i64 a0_3, .int .i64 a0_4, .slice A0_5 l0_5.length c0_5] 27 (0, 0)) (by (with_reducible repeat (first | refine zzf ?_ _ | refine zzg ?_ | refine zze ?_ _)); exact BK200.out)) : gb201 ≠ gb200)); clear BK200 HB; have BK200 := n0_; have HB := n1_; have BK201 := n2_; have GW201 := n3_; have GE201 := n4_; have NB200_201 := n5_; have NB201_200 := n6_; clear n0_ n1_ n2_ n3_ n4_ n5_ n6_ hb hbox hg; have hnb17 := NB200_201.out; have hnc17 := NB201_200.out; obtain ⟨hcz18_0, hcz18_1, hcz18_2, hcz18_3, hcz18_4, hcz18_5, hfz18_0, hfz18_1, hfz18_2, hfz18_3, hfz18_4, hfz18_5⟩ := zzc6 BK200.out; obtain ⟨hcz19_0, hcz19_1, hcz19_2, hcz19_3, hcz19_4, hcz19_5, hfz19_0, hfz19_1, hfz19_2, hfz19_3, hfz19_4, hfz19_5⟩ := zzc6 BK201.out))
      go_ret
      exact ⟨by first | rfl | (simp [errW_none, errW_some] <;> rfl) | (simp [*, errW_none, errW_some] <;> rfl), by repeat (first | (with_reducible first | exact HB.out | apply zza | apply zzb | apply zzc | refine zzd ?_ GE200.out | refine zzd ?_ GE201.out) | exact HB.out)⟩
    ·
     rw [if_neg c6] at H
     have c6b0 : (a0_3 == a1_3) = false := beq_eq_false_iff_ne.mpr c6
     have c6b1 : (a0_3 != a1_3) = true := bne_iff_ne.mpr c6
     obtain rfl := Option.some.inj H
     go_enter Try.func21, Try.ntmps21
     go_wp2_with (first | ((with_reducible refine gate_dst (N := 2) rfl ?_); refine box_event ?hg (N := 2) ?hd (cs := #[.bool a0_0, .bool a0_1, .int .i64 a0_2, .int .i64 a0_3, .int .i64 a0_4, .slice A0_5 l0_5.length c0_5]) (t := 27) ?hr ?_; (case hd => rfl); (case hg => rfl); (case hr => first | (go_simp; done) | (go_simp; rfl)); intro gb200 hg w20 hbox hb; have n0_ := zzm (zzp (by repeat (first | (with_reducible first | exact HB.out | apply zza | apply zzb | apply zzc) | exact HB.out)) hb); have n1_ := zzm (hbox); have n2_ := zzm ((by rw [hg]; exact (zzo (by repeat (first | (with_reducible first | exact HB.out | apply zza | apply zzb | apply zzc) | exact HB.out))) : w.heap.size ≤ gb200)); have n3_ := zzm ((by rw [hg]; exact (zzo (by repeat (first | (with_reducible first | exact HB.out | apply zza | apply zzb | apply zzc) | exact HB.out))) : w.heap.size ≤ gb200)); clear HB; have HB := n0_; have BK200 := n1_; have GW200 := n2_; have GE200 := n3_; clear n0_ n1_ n2_ n3_ hb hbox hg) | ((with_reducible refine gate_dst (N := 3) rfl ?_); refine box_event ?hg (N := 3) ?hd (cs := #[.bool a1_0, .bool a1_1, .int .i64 a1_2, .int .i64 a1_3, .int .i64 a1_4, .slice A1_5 l1_5.length c1_5]) (t := 27) ?hr ?_; (case hd => rfl); (case hg => rfl); (case hr => first | (go_simp; done) | (go_simp; rfl)); intro gb201 hg w21 hbox hb; have n0_ := zzm (zzh (g := gb200) (o := .cells #[.bool a0_0, .bool a0_1, .int .i64 a0_2, .int .i64 a0_3, .int .i64 a0_4, .slice A0_5 l0_5.length c0_5] 27 (0, 0)) (by (with_reducible repeat (first | refine zzf ?_ _ | refine zzg ?_ | refine zze ?_ _)); exact BK200.out) hb); have n1_ := zzm (zzp (by repeat (first | (with_reducible first | exact HB.out | apply zza | apply zzb | apply zzc | refine zzd ?_ GE200.out) | exact HB.out)) hb); have n2_ := zzm (hbox); have n3_ := zzm ((by rw [hg]; exact (zzo (by repeat (first | (with_reducible first | exact HB.out | apply zza | apply zzb | apply zzc | refine zzd ?_ GE200.out) | exact HB.out))) : w.heap.size ≤ gb201)); have n4_ := zzm ((by rw [hg]; exact (zzo (by repeat (first | (with_reducible first | exact HB.out | apply zza | apply zzb | apply zzc | refine zzd ?_ GE200.out) | exact HB.out))) : w.heap.size ≤ gb201)); have n5_ := zzm ((by rw [hg]; exact Nat.ne_of_lt (blk_lt (g := gb200) (o := .cells #[.bool a0_0, .bool a0_1, .int .i64 a0_2, .int .i64 a0_3, .int .i64 a0_4, .slice A0_5 l0_5.length c0_5] 27 (0, 0)) (by (with_reducible repeat (first | refine zzf ?_ _ | refine zzg ?_ | refine zze ?_ _)); exact BK200.out)) : gb200 ≠ gb201)); have n6_ := zzm ((by rw [hg]; exact Nat.ne_of_gt (blk_lt (g := gb200) (o := .cells #[.bool a0_0, .bool a0_1, .int .i64 a0_2, .int .i64 a0_3, .int .i64 a0_4, .slice A0_5 l0_5.length c0_5] 27 (0, 0)) (by (with_reducible repeat (first | refine zzf ?_ _ | refine zzg ?_ | refine zze ?_ _)); exact BK200.out)) : gb201 ≠ gb200)); clear BK200 HB; have BK200 := n0_; have HB := n1_; have BK201 := n2_; have GW201 := n3_; have GE201 := n4_; have NB200_201 := n5_; have NB201_200 := n6_; clear n0_ n1_ n2_ n3_ n4_ n5_ n6_ hb hbox hg; have hnb22 := NB200_201.out; have hnc22 := NB201_200.out; obtain ⟨hcz23_0, hcz23_1, hcz23_2, hcz23_3, hcz23_4, hcz23_5, hfz23_0, hfz23_1, hfz23_2, hfz23_3, hfz23_4, hfz23_5⟩ := zzc6 BK200.out; obtain ⟨hcz24_0, hcz24_1, hcz24_2, hcz24_3, hcz24_4, hcz24_5, hfz24_0, hfz24_1, hfz24_2, hfz24_3, hfz24_4, hfz24_5⟩ := zzc6 BK201.out))
     go_ret
     exact ⟨by first | rfl | (simp [errW_none, errW_some] <;> rfl) | (simp [*, errW_none, errW_some] <;> rfl), by repeat (first | (with_reducible first | exact HB.out | apply zza | apply zzb | apply zzc | refine zzd ?_ GE200.out | refine zzd ?_ GE201.out) | exact HB.out)⟩
   ·
    rw [if_neg c5] at H
    have c5b0 : (a0_2 == a1_2) = false := beq_eq_false_iff_ne.mpr c5
    have c5b1 : (a0_2 != a1_2) = true := bne_iff_ne.mpr c5
    obtain rfl := Option.some.inj H
    go_enter Try.func21, Try.ntmps21
    go_wp2_with (first | ((with_reducible refine gate_dst (N := 2) rfl ?_); refine box_event ?hg (N := 2) ?hd (cs := #[.bool a0_0, .bool a0_1, .int .i64 a0_2, .int .i64 a0_3, .int .i64 a0_4, .slice A0_5 l0_5.length c0_5]) (t := 27) ?hr ?_; (case hd => rfl); (case hg => rfl); (case hr => first | (go_simp; done) | (go_simp; rfl)); intro gb200 hg w25 hbox hb; have n0_ := zzm (zzp (by repeat (first | (with_reducible first | exact HB.out | apply zza | apply zzb | apply zzc) | exact HB.out)) hb); have n1_ := zzm (hbox); have n2_ := zzm ((by rw [hg]; exact (zzo (by repeat (first | (with_reducible first | exact HB.out | apply zza | apply zzb | apply zzc) | exact HB.out))) : w.heap.size ≤ gb200)); have n3_ := zzm ((by rw [hg]; exact (zzo (by repeat (first | (with_reducible first | exact HB.out | apply zza | apply zzb | apply zzc) | exact HB.out))) : w.heap.size ≤ gb200)); clear HB; have HB := n0_; have BK200 := n1_; have GW200 := n2_; have GE200 := n3_; clear n0_ n1_ n2_ n3_ hb hbox hg) | ((with_reducible refine gate_dst (N := 3) rfl ?_); refine box_event ?hg (N := 3) ?hd (cs := #[.bool a1_0, .bool a1_1, .int .i64 a1_2, .int .i64 a1_3, .int .i64 a1_4, .slice A1_5 l1_5.length c1_5]) (t := 27) ?hr ?_; (case hd => rfl); (case hg => rfl); (case hr => first | (go_simp; done) | (go_simp; rfl)); intro gb201 hg w26 hbox hb; have n0_ := zzm (zzh (g := gb200) (o := .cells #[.bool a0_0, .bool a0_1, .int .i64 a0_2, .int .i64 a0_3, .int .i64 a0_4, .slice A0_5 l0_5.length c0_5] 27 (0, 0)) (by (with_reducible repeat (first | refine zzf ?_ _ | refine zzg ?_ | refine zze ?_ _)); exact BK200.out) hb); have n1_ := zzm (zzp (by repeat (first | (with_reducible first | exact HB.out | apply zza | apply zzb | apply zzc | refine zzd ?_ GE200.out) | exact HB.out)) hb); have n2_ := zzm (hbox); have n3_ := zzm ((by rw [hg]; exact (zzo (by repeat (first | (with_reducible first | exact HB.out | apply zza | apply zzb | apply zzc | refine zzd ?_ GE200.out) | exact HB.out))) : w.heap.size ≤ gb201)); have n4_ := zzm ((by rw [hg]; exact (zzo (by repeat (first | (with_reducible first | exact HB.out | apply zza | apply zzb | apply zzc | refine zzd ?_ GE200.out) | exact HB.out))) : w.heap.size ≤ gb201)); have n5_ := zzm ((by rw [hg]; exact Nat.ne_of_lt (blk_lt (g := gb200) (o := .cells #[.bool a0_0, .bool a0_1, .int .i64 a0_2, .int .i64 a0_3, .int .i64 a0_4, .slice A0_5 l0_5.length c0_5] 27 (0, 0)) (by (with_reducible repeat (first | refine zzf ?_ _ | refine zzg ?_ | refine zze ?_ _)); exact BK200.out)) : gb200 ≠ gb201)); have n6_ := zzm ((by rw [hg]; exact Nat.ne_of_gt (blk_lt (g := gb200) (o := .cells #[.bool a0_0, .bool a0_1, .int .i64 a0_2, .int .i64 a0_3, .int .i64 a0_4, .slice A0_5 l0_5.length c0_5] 27 (0, 0)) (by (with_reducible repeat (first | refine zzf ?_ _ | refine zzg ?_ | refine zze ?_ _)); exact BK200.out)) : gb201 ≠ gb200)); clear BK200 HB; have BK200 := n0_; have HB := n1_; have BK201 := n2_; have GW201 := n3_; have GE201 := n4_; have NB200_201 := n5_; have NB201_200 := n6_; clear n0_ n1_ n2_ n3_ n4_ n5_ n6_ hb hbox hg; have hnb27 := NB200_201.out; have hnc27 := NB201_200.out; obtain ⟨hcz28_0, hcz28_1, hcz28_2, hcz28_3, hcz28_4, hcz28_5, hfz28_0, hfz28_1, hfz28_2, hfz28_3, hfz28_4, hfz28_5⟩ := zzc6 BK200.out; obtain ⟨hcz29_0, hcz29_1, hcz29_2, hcz29_3, hcz29_4, hcz29_5, hfz29_0, hfz29_1, hfz29_2, hfz29_3, hfz29_4, hfz29_5⟩ := zzc6 BK201.out))
    go_ret
    exact ⟨by first | rfl | (simp [errW_none, errW_some] <;> rfl) | (simp [*, errW_none, errW_some] <;> rfl), by repeat (first | (with_reducible first | exact HB.out | apply zza | apply zzb | apply zzc | refine zzd ?_ GE200.out | refine zzd ?_ GE201.out) | exact HB.out)⟩
  ·
   rw [if_neg c4] at H
   have c4b0 : (a0_1 == a1_1) = false := by simpa using c4
   (try (have c4b1 : decide (a0_1 = a1_1) = false := by simpa using c4))
   (try (have c4b2 : (a0_1 == a1_1) = false := by simpa using c4))
   (try (have c4b3 : ¬ (a0_1 = a1_1) := by simpa using c4))
   clear c4
   obtain rfl := Option.some.inj H
   go_enter Try.func21, Try.ntmps21
   go_wp2_with (first | ((with_reducible refine gate_dst (N := 2) rfl ?_); refine box_event ?hg (N := 2) ?hd (cs := #[.bool a0_0, .bool a0_1, .int .i64 a0_2, .int .i64 a0_3, .int .i64 a0_4, .slice A0_5 l0_5.length c0_5]) (t := 27) ?hr ?_; (case hd => rfl); (case hg => rfl); (case hr => first | (go_simp; done) | (go_simp; rfl)); intro gb200 hg w30 hbox hb; have n0_ := zzm (zzp (by repeat (first | (with_reducible first | exact HB.out | apply zza | apply zzb | apply zzc) | exact HB.out)) hb); have n1_ := zzm (hbox); have n2_ := zzm ((by rw [hg]; exact (zzo (by repeat (first | (with_reducible first | exact HB.out | apply zza | apply zzb | apply zzc) | exact HB.out))) : w.heap.size ≤ gb200)); have n3_ := zzm ((by rw [hg]; exact (zzo (by repeat (first | (with_reducible first | exact HB.out | apply zza | apply zzb | apply zzc) | exact HB.out))) : w.heap.size ≤ gb200)); clear HB; have HB := n0_; have BK200 := n1_; have GW200 := n2_; have GE200 := n3_; clear n0_ n1_ n2_ n3_ hb hbox hg) | ((with_reducible refine gate_dst (N := 3) rfl ?_); refine box_event ?hg (N := 3) ?hd (cs := #[.bool a1_0, .bool a1_1, .int .i64 a1_2, .int .i64 a1_3, .int .i64 a1_4, .slice A1_5 l1_5.length c1_5]) (t := 27) ?hr ?_; (case hd => rfl); (case hg => rfl); (case hr => first | (go_simp; done) | (go_simp; rfl)); intro gb201 hg w31 hbox hb; have n0_ := zzm (zzh (g := gb200) (o := .cells #[.bool a0_0, .bool a0_1, .int .i64 a0_2, .int .i64 a0_3, .int .i64 a0_4, .slice A0_5 l0_5.length c0_5] 27 (0, 0)) (by (with_reducible repeat (first | refine zzf ?_ _ | refine zzg ?_ | refine zze ?_ _)); exact BK200.out) hb); have n1_ := zzm (zzp (by repeat (first | (with_reducible first | exact HB.out | apply zza | apply zzb | apply zzc | refine zzd ?_ GE200.out) | exact HB.out)) hb); have n2_ := zzm (hbox); have n3_ := zzm ((by rw [hg]; exact (zzo (by repeat (first | (with_reducible first | exact HB.out | apply zza | apply zzb | apply zzc | refine zzd ?_ GE200.out) | exact HB.out))) : w.heap.size ≤ gb201)); have n4_ := zzm ((by rw [hg]; exact (zzo (by repeat (first | (with_reducible first | exact HB.out | apply zza | apply zzb | apply zzc | refine zzd ?_ GE200.out) | exact HB.out))) : w.heap.size ≤ gb201)); have n5_ := zzm ((by rw [hg]; exact Nat.ne_of_lt (blk_lt (g := gb200) (o := .cells #[.bool a0_0, .bool a0_1, .int .i64 a0_2, .int .i64 a0_3, .int .i64 a0_4, .slice A0_5 l0_5.length c0_5] 27 (0, 0)) (by (with_reducible repeat (first | refine zzf ?_ _ | refine zzg ?_ | refine zze ?_ _)); exact BK200.out)) : gb200 ≠ gb201)); have n6_ := zzm ((by rw [hg]; exact Nat.ne_of_gt (blk_lt (g := gb200) (o := .cells #[.bool a0_0, .bool a0_1, .int .i64 a0_2, .int .i64 a0_3, .int .i64 a0_4, .slice A0_5 l0_5.length c0_5] 27 (0, 0)) (by (with_reducible repeat (first | refine zzf ?_ _ | refine zzg ?_ | refine zze ?_ _)); exact BK200.out)) : gb201 ≠ gb200)); clear BK200 HB; have BK200 := n0_; have HB := n1_; have BK201 := n2_; have GW201 := n3_; have GE201 := n4_; have NB200_201 := n5_; have NB201_200 := n6_; clear n0_ n1_ n2_ n3_ n4_ n5_ n6_ hb hbox hg; have hnb32 := NB200_201.out; have hnc32 := NB201_200.out; obtain ⟨hcz33_0, hcz33_1, hcz33_2, hcz33_3, hcz33_4, hcz33_5, hfz33_0, hfz33_1, hfz33_2, hfz33_3, hfz33_4, hfz33_5⟩ := zzc6 BK200.out; obtain ⟨hcz34_0, hcz34_1, hcz34_2, hcz34_3, hcz34_4, hcz34_5, hfz34_0, hfz34_1, hfz34_2, hfz34_3, hfz34_4, hfz34_5⟩ := zzc6 BK201.out))
   go_ret
   exact ⟨by first | rfl | (simp [errW_none, errW_some] <;> rfl) | (simp [*, errW_none, errW_some] <;> rfl), by repeat (first | (with_reducible first | exact HB.out | apply zza | apply zzb | apply zzc | refine zzd ?_ GE200.out | refine zzd ?_ GE201.out) | exact HB.out)⟩
 ·
  rw [if_neg c3] at H
  have c3b0 : (a0_0 == a1_0) = false := by simpa using c3
  (try (have c3b1 : decide (a0_0 = a1_0) = false := by simpa using c3))
  (try (have c3b2 : (a0_0 == a1_0) = false := by simpa using c3))
  (try (have c3b3 : ¬ (a0_0 = a1_0) := by simpa using c3))
  clear c3
  obtain rfl := Option.some.inj H
  go_enter Try.func21, Try.ntmps21
  go_wp2_with (first | ((with_reducible refine gate_dst (N := 2) rfl ?_); refine box_event ?hg (N := 2) ?hd (cs := #[.bool a0_0, .bool a0_1, .int .i64 a0_2, .int .i64 a0_3, .int .i64 a0_4, .slice A0_5 l0_5.length c0_5]) (t := 27) ?hr ?_; (case hd => rfl); (case hg => rfl); (case hr => first | (go_simp; done) | (go_simp; rfl)); intro gb200 hg w35 hbox hb; have n0_ := zzm (zzp (by repeat (first | (with_reducible first | exact HB.out | apply zza | apply zzb | apply zzc) | exact HB.out)) hb); have n1_ := zzm (hbox); have n2_ := zzm ((by rw [hg]; exact (zzo (by repeat (first | (with_reducible first | exact HB.out | apply zza | apply zzb | apply zzc) | exact HB.out))) : w.heap.size ≤ gb200)); have n3_ := zzm ((by rw [hg]; exact (zzo (by repeat (first | (with_reducible first | exact HB.out | apply zza | apply zzb | apply zzc) | exact HB.out))) : w.heap.size ≤ gb200)); clear HB; have HB := n0_; have BK200 := n1_; have GW200 := n2_; have GE200 := n3_; clear n0_ n1_ n2_ n3_ hb hbox hg) | ((with_reducible refine gate_dst (N := 3) rfl ?_); refine box_event ?hg (N := 3) ?hd (cs := #[.bool a1_0, .bool a1_1, .int .i64 a1_2, .int .i64 a1_3, .int .i64 a1_4, .slice A1_5 l1_5.length c1_5]) (t := 27) ?hr ?_; (case hd => rfl); (case hg => rfl); (case hr => first | (go_simp; done) | (go_simp; rfl)); intro gb201 hg w36 hbox hb; have n0_ := zzm (zzh (g := gb200) (o := .cells #[.bool a0_0, .bool a0_1, .int .i64 a0_2, .int .i64 a0_3, .int .i64 a0_4, .slice A0_5 l0_5.length c0_5] 27 (0, 0)) (by (with_reducible repeat (first | refine zzf ?_ _ | refine zzg ?_ | refine zze ?_ _)); exact BK200.out) hb); have n1_ := zzm (zzp (by repeat (first | (with_reducible first | exact HB.out | apply zza | apply zzb | apply zzc | refine zzd ?_ GE200.out) | exact HB.out)) hb); have n2_ := zzm (hbox); have n3_ := zzm ((by rw [hg]; exact (zzo (by repeat (first | (with_reducible first | exact HB.out | apply zza | apply zzb | apply zzc | refine zzd ?_ GE200.out) | exact HB.out))) : w.heap.size ≤ gb201)); have n4_ := zzm ((by rw [hg]; exact (zzo (by repeat (first | (with_reducible first | exact HB.out | apply zza | apply zzb | apply zzc | refine zzd ?_ GE200.out) | exact HB.out))) : w.heap.size ≤ gb201)); have n5_ := zzm ((by rw [hg]; exact Nat.ne_of_lt (blk_lt (g := gb200) (o := .cells #[.bool a0_0, .bool a0_1, .int .i64 a0_2, .int .i64 a0_3, .int .i64 a0_4, .slice A0_5 l0_5.length c0_5] 27 (0, 0)) (by (with_reducible repeat (first | refine zzf ?_ _ | refine zzg ?_ | refine zze ?_ _)); exact BK200.out)) : gb200 ≠ gb201)); have n6_ := zzm ((by rw [hg]; exact Nat.ne_of_gt (blk_lt (g := gb200) (o := .cells #[.bool a0_0, .bool a0_1, .int .i64 a0_2, .int .i64 a0_3, .int .i64 a0_4, .slice A0_5 l0_5.length c0_5] 27 (0, 0)) (by (with_reducible repeat (first | refine zzf ?_ _ | refine zzg ?_ | refine zze ?_ _)); exact BK200.out)) : gb201 ≠ gb200)); clear BK200 HB; have BK200 := n0_; have HB := n1_; have BK201 := n2_; have GW201 := n3_; have GE201 := n4_; have NB200_201 := n5_; have NB201_200 := n6_; clear n0_ n1_ n2_ n3_ n4_ n5_ n6_ hb hbox hg; have hnb37 := NB200_201.out; have hnc37 := NB201_200.out; obtain ⟨hcz38_0, hcz38_1, hcz38_2, hcz38_3, hcz38_4, hcz38_5, hfz38_0, hfz38_1, hfz38_2, hfz38_3, hfz38_4, hfz38_5⟩ := zzc6 BK200.out; obtain ⟨hcz39_0, hcz39_1, hcz39_2, hcz39_3, hcz39_4, hcz39_5, hfz39_0, hfz39_1, hfz39_2, hfz39_3, hfz39_4, hfz39_5⟩ := zzc6 BK201.out))
  go_ret
  exact ⟨by first | rfl | (simp [errW_none, errW_some] <;> rfl) | (simp [*, errW_none, errW_some] <;> rfl), by repeat (first | (with_reducible first | exact HB.out | apply zza | apply zzb | apply zzc | refine zzd ?_ GE200.out | refine zzd ?_ GE201.out) | exact HB.out)⟩
end Go.Proofs.Yticpnjhkdfdkkaa.T
