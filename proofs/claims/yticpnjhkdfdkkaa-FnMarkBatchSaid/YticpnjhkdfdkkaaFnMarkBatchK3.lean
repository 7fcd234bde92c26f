/- FnMarkBatch, part 4 of 5: merged by wip/tools/pack2.py out of the texts that the row reaches; the pure statement is the session's own. -/
import Derived.RegionTactic
import Derived.Test.YticpnjhkdfdkkaaFnMarkBatchK2
namespace Go.Proofs.Yticpnjhkdfdkkaa.T
open Go.RowKit Go.Proofs.YticpnjhkdfdkkaaW.PrintWords Go.Proofs.YticpnjhkdfdkkaaW.PrintLast Go.Proofs.YticpnjhkdfdkkaaW.PrintMore

set_option linter.unusedVariables false
set_option linter.unusedSimpArgs false
def markRow (a2 a3 : Int) (a4 : Bool) : List S34 := [⟨a2, a3, false, [], true, [if a4 = true then 1 else 0]⟩]
def spec_MarkBatch.f (k : Nat) (a0 : Int) (a1 : Int) (a2 : Int) (a3 : Int) (a4 : Bool) : Option (Bool × Bool × Int × Int × Int × (List (S34)) × Bool) := (spec_BatchValid.f k false true a0 a1 0 (markRow a2 a3 a4)).bind fun t => if t = true then some (false, true, a0, a1, 0, markRow a2 a3 a4, true) else some (false, false, 0, 0, 0, [], false)
set_option maxHeartbeats 8000000 in
set_option maxRecDepth 100000 in
theorem spec_MarkBatch.calls (k : Nat) (a0 : Int) (a1 : Int) (a2 : Int) (a3 : Int) (a4 : Bool) (r1 : Bool) (r2 : Bool) (r3 : Int) (r4 : Int) (r5 : Int) (r6 : List (S34)) (r7 : Bool) (w : World) (h : spec_MarkBatch.f k a0 a1 a2 a3 a4 = some (r1, r2, r3, r4, r5, r6, r7)) :
  Calls Try.prog 20 #[.int .i64 a0, .int .i64 a1, .int .i64 a2, .int .i64 a3, .bool a4] w fun e w' => ∃ v5_ : Value, e = .returned (.tuple #[.agg #[.bool r1, .bool r2, .int .i64 r3, .int .i64 r4, .int .i64 r5, v5_], .bool r7]) ∧ Kd.N k34 34 w' w.heap.size (fun k_ => (w.heap.size ≤ k_)) v5_ r6 ∧ Below w.heap.size w w' := by
 have HB := zzm (Below.refl w.heap.size w)
 unfold spec_MarkBatch.f markRow at h
 replace h := Option.bind_eq_some_iff.mp h
 obtain ⟨t, A70, h⟩ := h
 have A7 := zzm A70
 clear A70
 cases a4 with
 | true =>
  cases t with
  | true =>
   simp only [if_true, Bool.false_eq_true, if_false, Option.some.injEq, Prod.mk.injEq] at h A7
   obtain ⟨rfl, rfl, rfl, rfl, rfl, rfl, rfl⟩ := h
   go_enter Try.func20, Try.ntmps20
   go_upto_region 5 with (first | ((with_reducible refine gate_dst (N := 10) rfl ?_); refine box_event ?hg (N := 10) ?hd (cs := #[.bool false, .bool false, .int .i64 0, .int .i64 0, .int .i64 0, .slice none 0 0]) (t := 27) ?hr ?_; (case hd => rfl); (case hg => rfl); (case hr => first | (go_simp; done) | (go_simp; rfl)); intro g1 hg w1 hbox hb; have HB1 := zzm (zzp HB.out hb); have BK1 := zzm hbox; have GE1 := zzm (show w.heap.size ≤ g1 by rw [hg]; exact HB.out.size); clear hb hbox hg) | ((with_reducible refine gate_dst (N := 18) rfl ?_); refine Kd.R_lit (Kd.int .i64) _ 3 ?hg (N := 18) ?hd (xs := ([] : List Int)) (inner := []) (ok := fun _ => True) (okp := fun _ => True) ?hr ?hp (fun _ hk => hk) trivial (Below.refl _ _) (Nat.le_refl _) (by simp) ?_; (case hd => rfl); (case hg => rfl); (case hr => first | (go_simp; done) | (go_simp; rfl)); (case hp => exact (Reps.none _ _)); intro v18 w2 ho hb hg_ hnew_; have HK2 := zzm (Kd.R_lower (Kd.R_mono (Kd.R_bound (Kd.R_newB ho BK1.out)) (fun k hk => (⟨Nat.le_trans HB1.out.size hk.2.1, hk.1.2⟩ : w.heap.size ≤ k ∧ k ≠ g1))) HB1.out.size); have HB2 := zzm (zzp HB1.out hb); have BK2 := zzm (zzh BK1.out hb); clear hg_ hnew_ ho hb; obtain ⟨Ak, ck, e_⟩ := Kd.R_slice HK2.out; subst e_) | ((with_reducible refine gate_dst (N := 20) rfl ?_); refine Kd.R_lit (Kd.int .i64) _ 3 ?hg (N := 20) ?hd (xs := ([1] : List Int)) (inner := [.int .i64 1]) (ok := fun _ => True) (okp := fun _ => True) ?hr ?hp (fun _ hk => hk) trivial (Below.refl _ _) (Nat.le_refl _) (by simp) ?_; (case hd => rfl); (case hg => rfl); (case hr => first | (go_simp; done) | (go_simp; rfl)); (case hp => exact (Reps.one (show Kd.M (Kd.int .i64) _ _ _ 1 [.int .i64 1] from rfl) (Reps.none _ _))); intro v20 w3 ho hb hg_ hnew_; have HV3 := zzm (Kd.R_lower (Kd.R_mono (Kd.R_bound (Kd.R_newB ho BK2.out)) (fun k hk => (⟨Nat.le_trans HB2.out.size hk.2.1, hk.1.2⟩ : w.heap.size ≤ k ∧ k ≠ g1))) HB2.out.size); have HB3 := zzm (zzp HB2.out hb); have BK3 := zzm (zzh BK2.out hb); have HK3 := zzm (Kd.R_below HK2.out hb); clear hg_ hnew_ ho hb; obtain ⟨Av, cv, e_⟩ := Kd.R_slice HV3.out; subst e_) | ((with_reducible refine gate_dst (N := 13) rfl ?_); refine box_event ?hg (N := 13) ?hd (cs := #[.int .i64 0, .int .i64 0, .bool false, .slice none 0 0, .bool false, .slice none 0 0]) (t := 34) ?hr ?_; (case hd => rfl); (case hg => rfl); (case hr => first | (go_simp; done) | (go_simp; rfl)); intro g2 hg w4 hbox hb; have HB4 := zzm (zzp HB3.out hb); have BK4 := zzm (zzh BK3.out hb); have HK4 := zzm (Kd.R_below HK3.out hb); have HV4 := zzm (Kd.R_below HV3.out hb); have BX := zzm hbox; have GE2 := zzm (show w.heap.size ≤ g2 by rw [hg]; exact HB3.out.size); have NE := zzm (show g1 ≠ g2 by rw [hg]; exact Nat.ne_of_lt (blk_lt BK3.out)); clear hb hbox hg; have hz0 : w4.cell? ⟨_, 0, none⟩ = some _ := (zzk BX.out 0).trans rfl; have hf0 := zzl BX.out 0; have hz1 : w4.cell? ⟨_, 1, none⟩ = some _ := (zzk BX.out 1).trans rfl; have hf1 := zzl BX.out 1; have hz2 : w4.cell? ⟨_, 2, none⟩ = some _ := (zzk BX.out 2).trans rfl; have hf2 := zzl BX.out 2; have hz3 : w4.cell? ⟨_, 3, none⟩ = some _ := (zzk BX.out 3).trans rfl; have hf3 := zzl BX.out 3; have hz4 : w4.cell? ⟨_, 4, none⟩ = some _ := (zzk BX.out 4).trans rfl; have hf4 := zzl BX.out 4; have hz5 : w4.cell? ⟨_, 5, none⟩ = some _ := (zzk BX.out 5).trans rfl; have hf5 := zzl BX.out 5))
   have HK5 := zzm (Kd.R_mono (Kd.R_far (p := ⟨g2, 5, none⟩) (Kd.R_far (p := ⟨g2, 4, none⟩) (Kd.R_far (p := ⟨g2, 3, none⟩) (Kd.R_far (p := ⟨g2, 2, none⟩) (Kd.R_far (p := ⟨g2, 1, none⟩) (Kd.R_far (p := ⟨g2, 0, none⟩) (Kd.R_types HK4.out BX.out (by decide)) (fun _ hk => hk.2) (.int .i64 a2)) (fun _ hk => hk.2) (.int .i64 a3)) (fun _ hk => hk.2) (.bool false)) (fun _ hk => hk.2) (.slice Ak ([] : List Int).length ck)) (fun _ hk => hk.2) (.bool true)) (fun _ hk => hk.2) (.slice Av ([1] : List Int).length cv)) (fun k hk => hk.1))
   have HV5 := zzm (Kd.R_mono (Kd.R_far (p := ⟨g2, 5, none⟩) (Kd.R_far (p := ⟨g2, 4, none⟩) (Kd.R_far (p := ⟨g2, 3, none⟩) (Kd.R_far (p := ⟨g2, 2, none⟩) (Kd.R_far (p := ⟨g2, 1, none⟩) (Kd.R_far (p := ⟨g2, 0, none⟩) (Kd.R_types HV4.out BX.out (by decide)) (fun _ hk => hk.2) (.int .i64 a2)) (fun _ hk => hk.2) (.int .i64 a3)) (fun _ hk => hk.2) (.bool false)) (fun _ hk => hk.2) (.slice Ak ([] : List Int).length ck)) (fun _ hk => hk.2) (.bool true)) (fun _ hk => hk.2) (.slice Av ([1] : List Int).length cv)) (fun k hk => hk.1))
   have BK5 := zzm (zzj (p := ⟨g2, 5, none⟩) (zzj (p := ⟨g2, 4, none⟩) (zzj (p := ⟨g2, 3, none⟩) (zzj (p := ⟨g2, 2, none⟩) (zzj (p := ⟨g2, 1, none⟩) (zzj (p := ⟨g2, 0, none⟩) (BK4.out) NE.out (.int .i64 a2)) NE.out (.int .i64 a3)) NE.out (.bool false)) NE.out (.slice Ak ([] : List Int).length ck)) NE.out (.bool true)) NE.out (.slice Av ([1] : List Int).length cv))
   have BX5 := zzm (zzi (cs := #[.int .i64 a2, .int .i64 a3, .bool false, .slice Ak ([] : List Int).length ck, .bool true, .slice none 0 0]) (cs' := #[.int .i64 a2, .int .i64 a3, .bool false, .slice Ak ([] : List Int).length ck, .bool true, .slice Av ([1] : List Int).length cv]) (zzi (cs := #[.int .i64 a2, .int .i64 a3, .bool false, .slice Ak ([] : List Int).length ck, .bool false, .slice none 0 0]) (cs' := #[.int .i64 a2, .int .i64 a3, .bool false, .slice Ak ([] : List Int).length ck, .bool true, .slice none 0 0]) (zzi (cs := #[.int .i64 a2, .int .i64 a3, .bool false, .slice none 0 0, .bool false, .slice none 0 0]) (cs' := #[.int .i64 a2, .int .i64 a3, .bool false, .slice Ak ([] : List Int).length ck, .bool false, .slice none 0 0]) (zzi (cs := #[.int .i64 a2, .int .i64 a3, .bool false, .slice none 0 0, .bool false, .slice none 0 0]) (cs' := #[.int .i64 a2, .int .i64 a3, .bool false, .slice none 0 0, .bool false, .slice none 0 0]) (zzi (cs := #[.int .i64 a2, .int .i64 0, .bool false, .slice none 0 0, .bool false, .slice none 0 0]) (cs' := #[.int .i64 a2, .int .i64 a3, .bool false, .slice none 0 0, .bool false, .slice none 0 0]) (zzi (cs := #[.int .i64 0, .int .i64 0, .bool false, .slice none 0 0, .bool false, .slice none 0 0]) (cs' := #[.int .i64 a2, .int .i64 0, .bool false, .slice none 0 0, .bool false, .slice none 0 0]) (BX.out) 0 (.int .i64 a2) rfl) 1 (.int .i64 a3) rfl) 2 (.bool false) rfl) 3 (.slice Ak ([] : List Int).length ck) rfl) 4 (.bool true) rfl) 5 (.slice Av ([1] : List Int).length cv) rfl)
   have HB5 := zzm (zzd (zzd (zzd (zzd (zzd (zzd (HB4.out) GE2.out (j := 0) (v := .int .i64 a2)) GE2.out (j := 1) (v := .int .i64 a3)) GE2.out (j := 2) (v := .bool false)) GE2.out (j := 3) (v := .slice Ak ([] : List Int).length ck)) GE2.out (j := 4) (v := .bool true)) GE2.out (j := 5) (v := .slice Av ([1] : List Int).length cv))
   clear hz0 hz1 hz2 hz3 hz4 hz5 hf0 hf1 hf2 hf3 hf4 hf5 HB1 HB2 HB3 HB4 BK1 BK2 BK3 BK4 HK2 HK3 HK4 HV3 HV4 BX
   generalize (((((w4.setCell ⟨g2, 0, none⟩ (.int .i64 a2)).setCell ⟨g2, 1, none⟩ (.int .i64 a3)).setCell ⟨g2, 2, none⟩ (.bool false)).setCell ⟨g2, 3, none⟩ (.slice Ak ([] : List Int).length ck)).setCell ⟨g2, 4, none⟩ (.bool true)).setCell ⟨g2, 5, none⟩ (.slice Av ([1] : List Int).length cv) = w5 at HK5 HV5 BK5 BX5 HB5 ⊢
   have d0 : w5.cell? ⟨g2, 0, none⟩ = some (.int .i64 a2) := (zzk BX5.out 0).trans rfl
   have d1 : w5.cell? ⟨g2, 1, none⟩ = some (.int .i64 a3) := (zzk BX5.out 1).trans rfl
   have d2 : w5.cell? ⟨g2, 2, none⟩ = some (.bool false) := (zzk BX5.out 2).trans rfl
   have d3 : w5.cell? ⟨g2, 3, none⟩ = some (.slice Ak ([] : List Int).length ck) := (zzk BX5.out 3).trans rfl
   have d4 : w5.cell? ⟨g2, 4, none⟩ = some (.bool true) := (zzk BX5.out 4).trans rfl
   have d5 : w5.cell? ⟨g2, 5, none⟩ = some (.slice Av ([1] : List Int).length cv) := (zzk BX5.out 5).trans rfl
   go_upto_region 6 with (first | ((with_reducible refine gate_dst (N := 25) rfl ?_); refine Kd.N_lit k34 _ 34 ?hg (N' := 25) ?hd (xs := ([(⟨a2, a3, false, [], true, [1]⟩ : S34)] : List (S34))) (inner := [.int .i64 a2, .int .i64 a3, .bool false, .slice Ak ([] : List Int).length ck, .bool true, .slice Av ([1] : List Int).length cv]) (ok := (fun k => w.heap.size ≤ k ∧ k ≠ g1)) (okp := (fun k => w.heap.size ≤ k ∧ k ≠ g1)) ?hr ?hp (fun _ hk => hk) ((show ∀ k, w5.heap.size ≤ k → (fun k => w.heap.size ≤ k ∧ k ≠ g1) k from fun k hk => ⟨Nat.le_trans HB5.out.size hk, fun e => by have := blk_lt BK5.out; omega⟩) _ (Nat.le_refl _)) (Below.refl _ _) (Nat.le_refl _) (by simp) ?_; (case hd => rfl); (case hg => rfl); (case hr => first | (go_simp; done) | (go_simp; rfl)); (case hp => exact (Reps.c6 (show Kd.FK k34 _ _ (⟨a2, a3, false, [], true, [1]⟩ : S34) [.int .i64 a2, .int .i64 a3, .bool false, .slice Ak ([] : List Int).length ck, .bool true, .slice Av ([1] : List Int).length cv] from (k34_mkF _ _ (⟨a2, a3, false, [], true, [1]⟩ : S34) (Kd.R_reads' HK5.out).2.1 (Kd.R_F HK5.out) (Kd.R_reads' HV5.out).2.1 (Kd.R_F HV5.out))) (Reps.none _ _))); intro v25 w6 ho hb hg_ hnew_; have HN6 := zzm (Kd.N_lower ho HB5.out.size); have HB6 := zzm (zzp HB5.out hb); have BK6 := zzm (zzh BK5.out hb); clear hg_ hnew_ ho hb; obtain ⟨An, cn, e_⟩ := Kd.N_slice HN6.out; subst e_) | ((with_reducible refine gate_dst (N := 14) rfl ?_); refine box_event ?hg (N := 14) ?hd (cs := #[.bool false, .bool false, .int .i64 0, .int .i64 0, .int .i64 0, .slice none 0 0]) (t := 27) ?hr ?_; (case hd => rfl); (case hg => rfl); (case hr => first | (go_simp; done) | (go_simp; rfl)); intro g3 hg w7 hbox hb; have HB7 := zzm (zzp HB6.out hb); have BK7 := zzm (zzh BK6.out hb); have HN7 := zzm (Kd.N_below (Kd.N_elderB HN6.out g3 (Nat.le_of_eq hg.symm)) hb); have BY := zzm hbox; have GE3 := zzm (show w.heap.size ≤ g3 by rw [hg]; exact HB6.out.size); have NE3 := zzm (show g1 ≠ g3 by rw [hg]; exact Nat.ne_of_lt (blk_lt BK6.out)); clear hb hbox hg d0 d1 d2 d3 d4 d5; have hz0 : w7.cell? ⟨_, 0, none⟩ = some _ := (zzk BY.out 0).trans rfl; have hf0 := zzl BY.out 0; have hz1 : w7.cell? ⟨_, 1, none⟩ = some _ := (zzk BY.out 1).trans rfl; have hf1 := zzl BY.out 1; have hz2 : w7.cell? ⟨_, 2, none⟩ = some _ := (zzk BY.out 2).trans rfl; have hf2 := zzl BY.out 2; have hz3 : w7.cell? ⟨_, 3, none⟩ = some _ := (zzk BY.out 3).trans rfl; have hf3 := zzl BY.out 3; have hz4 : w7.cell? ⟨_, 4, none⟩ = some _ := (zzk BY.out 4).trans rfl; have hf4 := zzl BY.out 4; have hz5 : w7.cell? ⟨_, 5, none⟩ = some _ := (zzk BY.out 5).trans rfl; have hf5 := zzl BY.out 5))
   have HN8 := zzm (Kd.N_far (p := ⟨g3, 5, none⟩) (Kd.N_far (p := ⟨g3, 4, none⟩) (Kd.N_far (p := ⟨g3, 3, none⟩) (Kd.N_far (p := ⟨g3, 2, none⟩) (Kd.N_far (p := ⟨g3, 1, none⟩) (Kd.N_far (p := ⟨g3, 0, none⟩) (HN7.out) (fun _ hk => hk.2) (.bool false)) (fun _ hk => hk.2) (.bool true)) (fun _ hk => hk.2) (.int .i64 a0)) (fun _ hk => hk.2) (.int .i64 a1)) (fun _ hk => hk.2) (.int .i64 0)) (fun _ hk => hk.2) (.slice An ([(⟨a2, a3, false, [], true, [1]⟩ : S34)] : List S34).length cn))
   have BK8 := zzm (zzj (p := ⟨g3, 5, none⟩) (zzj (p := ⟨g3, 4, none⟩) (zzj (p := ⟨g3, 3, none⟩) (zzj (p := ⟨g3, 2, none⟩) (zzj (p := ⟨g3, 1, none⟩) (zzj (p := ⟨g3, 0, none⟩) (BK7.out) NE3.out (.bool false)) NE3.out (.bool true)) NE3.out (.int .i64 a0)) NE3.out (.int .i64 a1)) NE3.out (.int .i64 0)) NE3.out (.slice An ([(⟨a2, a3, false, [], true, [1]⟩ : S34)] : List S34).length cn))
   have BY8 := zzm (zzi (cs := #[.bool false, .bool true, .int .i64 a0, .int .i64 a1, .int .i64 0, .slice none 0 0]) (cs' := #[.bool false, .bool true, .int .i64 a0, .int .i64 a1, .int .i64 0, .slice An ([(⟨a2, a3, false, [], true, [1]⟩ : S34)] : List S34).length cn]) (zzi (cs := #[.bool false, .bool true, .int .i64 a0, .int .i64 a1, .int .i64 0, .slice none 0 0]) (cs' := #[.bool false, .bool true, .int .i64 a0, .int .i64 a1, .int .i64 0, .slice none 0 0]) (zzi (cs := #[.bool false, .bool true, .int .i64 a0, .int .i64 0, .int .i64 0, .slice none 0 0]) (cs' := #[.bool false, .bool true, .int .i64 a0, .int .i64 a1, .int .i64 0, .slice none 0 0]) (zzi (cs := #[.bool false, .bool true, .int .i64 0, .int .i64 0, .int .i64 0, .slice none 0 0]) (cs' := #[.bool false, .bool true, .int .i64 a0, .int .i64 0, .int .i64 0, .slice none 0 0]) (zzi (cs := #[.bool false, .bool false, .int .i64 0, .int .i64 0, .int .i64 0, .slice none 0 0]) (cs' := #[.bool false, .bool true, .int .i64 0, .int .i64 0, .int .i64 0, .slice none 0 0]) (zzi (cs := #[.bool false, .bool false, .int .i64 0, .int .i64 0, .int .i64 0, .slice none 0 0]) (cs' := #[.bool false, .bool false, .int .i64 0, .int .i64 0, .int .i64 0, .slice none 0 0]) (BY.out) 0 (.bool false) rfl) 1 (.bool true) rfl) 2 (.int .i64 a0) rfl) 3 (.int .i64 a1) rfl) 4 (.int .i64 0) rfl) 5 (.slice An ([(⟨a2, a3, false, [], true, [1]⟩ : S34)] : List S34).length cn) rfl)
   have HB8 := zzm (zzd (zzd (zzd (zzd (zzd (zzd (HB7.out) GE3.out (j := 0) (v := .bool false)) GE3.out (j := 1) (v := .bool true)) GE3.out (j := 2) (v := .int .i64 a0)) GE3.out (j := 3) (v := .int .i64 a1)) GE3.out (j := 4) (v := .int .i64 0)) GE3.out (j := 5) (v := .slice An ([(⟨a2, a3, false, [], true, [1]⟩ : S34)] : List S34).length cn))
   clear hz0 hz1 hz2 hz3 hz4 hz5 hf0 hf1 hf2 hf3 hf4 hf5 HB5 HB6 HB7 BK5 BK6 BK7 HN6 HN7 HK5 HV5 BX5 BY
   generalize (((((w7.setCell ⟨g3, 0, none⟩ (.bool false)).setCell ⟨g3, 1, none⟩ (.bool true)).setCell ⟨g3, 2, none⟩ (.int .i64 a0)).setCell ⟨g3, 3, none⟩ (.int .i64 a1)).setCell ⟨g3, 4, none⟩ (.int .i64 0)).setCell ⟨g3, 5, none⟩ (.slice An ([(⟨a2, a3, false, [], true, [1]⟩ : S34)] : List S34).length cn) = w8 at HN8 BK8 BY8 HB8 ⊢
   have d0 : w8.cell? ⟨g3, 0, none⟩ = some (.bool false) := (zzk BY8.out 0).trans rfl
   have d1 : w8.cell? ⟨g3, 1, none⟩ = some (.bool true) := (zzk BY8.out 1).trans rfl
   have d2 : w8.cell? ⟨g3, 2, none⟩ = some (.int .i64 a0) := (zzk BY8.out 2).trans rfl
   have d3 : w8.cell? ⟨g3, 3, none⟩ = some (.int .i64 a1) := (zzk BY8.out 3).trans rfl
   have d4 : w8.cell? ⟨g3, 4, none⟩ = some (.int .i64 0) := (zzk BY8.out 4).trans rfl
   have d5 : w8.cell? ⟨g3, 5, none⟩ = some (.slice An ([(⟨a2, a3, false, [], true, [1]⟩ : S34)] : List S34).length cn) := (zzk BY8.out 5).trans rfl
   go_wp2_with (((with_reducible refine gate_callee (f := 55) rfl ?_); refine goesL_ (some 28) rfl rfl Try.func55 (by kernel_rfl) rfl #[.agg #[.bool false, .bool true, .int .i64 a0, .int .i64 a1, .int .i64 0, .slice An ([(⟨a2, a3, false, [], true, [1]⟩ : S34)] : List S34).length cn]] rfl (by (try simp only [List.map_toArray, List.map_cons, List.map_nil]); first | done | rfl) ?_; (with_reducible refine (spec_BatchValid.calls k false true a0 a1 0 _ _ ([(⟨a2, a3, false, [], true, [1]⟩ : S34)] : List S34) true _ ?s1 ?s2 A7.out).mono ?_); (case s1 => exact (Kd.N_reads' HN8.out).2.2); (case s2 => exact (Kd.N_reads' HN8.out).2.1); rintro e w9 ⟨rfl, hb⟩; refine ⟨_, rfl, ?_⟩; have HN9 := zzm (Kd.N_below HN8.out hb); have BK9 := zzm (zzh BK8.out hb); have BY9 := zzm (zzh BY8.out hb); have HB9 := zzm (zzp HB8.out hb); clear hb d0 d1 d2 d3 d4 d5; have hz0 : w9.cell? ⟨_, 0, none⟩ = some _ := (zzk BK9.out 0).trans rfl; have hf0 := zzl BK9.out 0; have hz1 : w9.cell? ⟨_, 1, none⟩ = some _ := (zzk BK9.out 1).trans rfl; have hf1 := zzl BK9.out 1; have hz2 : w9.cell? ⟨_, 2, none⟩ = some _ := (zzk BK9.out 2).trans rfl; have hf2 := zzl BK9.out 2; have hz3 : w9.cell? ⟨_, 3, none⟩ = some _ := (zzk BK9.out 3).trans rfl; have hf3 := zzl BK9.out 3; have hz4 : w9.cell? ⟨_, 4, none⟩ = some _ := (zzk BK9.out 4).trans rfl; have hf4 := zzl BK9.out 4; have hz5 : w9.cell? ⟨_, 5, none⟩ = some _ := (zzk BK9.out 5).trans rfl; have hf5 := zzl BK9.out 5; have d0 : w9.cell? ⟨g3, 0, none⟩ = some (.bool false) := (zzk BY9.out 0).trans rfl; have d1 : w9.cell? ⟨g3, 1, none⟩ = some (.bool true) := (zzk BY9.out 1).trans rfl; have d2 : w9.cell? ⟨g3, 2, none⟩ = some (.int .i64 a0) := (zzk BY9.out 2).trans rfl; have d3 : w9.cell? ⟨g3, 3, none⟩ = some (.int .i64 a1) := (zzk BY9.out 3).trans rfl; have d4 : w9.cell? ⟨g3, 4, none⟩ = some (.int .i64 0) := (zzk BY9.out 4).trans rfl; have d5 : w9.cell? ⟨g3, 5, none⟩ = some (.slice An ([(⟨a2, a3, false, [], true, [1]⟩ : S34)] : List S34).length cn) := (zzk BY9.out 5).trans rfl))
   refine bodyPost_ret (results_ct rfl _ _ g1 27 #[.bool false, .bool true, .int .i64 a0, .int .i64 a1, .int .i64 0, .slice An ([(⟨a2, a3, false, [], true, [1]⟩ : S34)] : List S34).length cn] (0, 0) _ rfl (zzi (cs := #[.bool false, .bool true, .int .i64 a0, .int .i64 a1, .int .i64 0, .slice none 0 0]) (cs' := #[.bool false, .bool true, .int .i64 a0, .int .i64 a1, .int .i64 0, .slice An ([(⟨a2, a3, false, [], true, [1]⟩ : S34)] : List S34).length cn]) (zzi (cs := #[.bool false, .bool true, .int .i64 a0, .int .i64 a1, .int .i64 0, .slice none 0 0]) (cs' := #[.bool false, .bool true, .int .i64 a0, .int .i64 a1, .int .i64 0, .slice none 0 0]) (zzi (cs := #[.bool false, .bool true, .int .i64 a0, .int .i64 0, .int .i64 0, .slice none 0 0]) (cs' := #[.bool false, .bool true, .int .i64 a0, .int .i64 a1, .int .i64 0, .slice none 0 0]) (zzi (cs := #[.bool false, .bool true, .int .i64 0, .int .i64 0, .int .i64 0, .slice none 0 0]) (cs' := #[.bool false, .bool true, .int .i64 a0, .int .i64 0, .int .i64 0, .slice none 0 0]) (zzi (cs := #[.bool false, .bool false, .int .i64 0, .int .i64 0, .int .i64 0, .slice none 0 0]) (cs' := #[.bool false, .bool true, .int .i64 0, .int .i64 0, .int .i64 0, .slice none 0 0]) (zzi (cs := #[.bool false, .bool false, .int .i64 0, .int .i64 0, .int .i64 0, .slice none 0 0]) (cs' := #[.bool false, .bool false, .int .i64 0, .int .i64 0, .int .i64 0, .slice none 0 0]) (BK9.out) 0 (.bool false) rfl) 1 (.bool true) rfl) 2 (.int .i64 a0) rfl) 3 (.int .i64 a1) rfl) 4 (.int .i64 0) rfl) 5 (.slice An ([(⟨a2, a3, false, [], true, [1]⟩ : S34)] : List S34).length cn) rfl) Try.underlying27 rfl (by kernel_rfl)) rfl ?_
   exact ⟨_, rfl, Kd.N_mono (Kd.N_far (p := ⟨g1, 5, none⟩) (Kd.N_far (p := ⟨g1, 4, none⟩) (Kd.N_far (p := ⟨g1, 3, none⟩) (Kd.N_far (p := ⟨g1, 2, none⟩) (Kd.N_far (p := ⟨g1, 1, none⟩) (Kd.N_far (p := ⟨g1, 0, none⟩) (Kd.N_mono HN9.out (fun k hk => (⟨hk.1.1, hk.1.2⟩ : _ ∧ k ≠ g1))) (fun _ hk => hk.2) (.bool false)) (fun _ hk => hk.2) (.bool true)) (fun _ hk => hk.2) (.int .i64 a0)) (fun _ hk => hk.2) (.int .i64 a1)) (fun _ hk => hk.2) (.int .i64 0)) (fun _ hk => hk.2) (.slice An ([(⟨a2, a3, false, [], true, [1]⟩ : S34)] : List S34).length cn)) (fun _ hk => hk.1), zzd (zzd (zzd (zzd (zzd (zzd (HB9.out) GE1.out (j := 0) (v := .bool false)) GE1.out (j := 1) (v := .bool true)) GE1.out (j := 2) (v := .int .i64 a0)) GE1.out (j := 3) (v := .int .i64 a1)) GE1.out (j := 4) (v := .int .i64 0)) GE1.out (j := 5) (v := .slice An ([(⟨a2, a3, false, [], true, [1]⟩ : S34)] : List S34).length cn)⟩
  | false =>
   simp only [if_true, Bool.false_eq_true, if_false, Option.some.injEq, Prod.mk.injEq] at h A7
   obtain ⟨rfl, rfl, rfl, rfl, rfl, rfl, rfl⟩ := h
   go_enter Try.func20, Try.ntmps20
   go_upto_region 5 with (first | ((with_reducible refine gate_dst (N := 10) rfl ?_); refine box_event ?hg (N := 10) ?hd (cs := #[.bool false, .bool false, .int .i64 0, .int .i64 0, .int .i64 0, .slice none 0 0]) (t := 27) ?hr ?_; (case hd => rfl); (case hg => rfl); (case hr => first | (go_simp; done) | (go_simp; rfl)); intro g1 hg w1 hbox hb; have HB1 := zzm (zzp HB.out hb); have BK1 := zzm hbox; have GE1 := zzm (show w.heap.size ≤ g1 by rw [hg]; exact HB.out.size); clear hb hbox hg) | ((with_reducible refine gate_dst (N := 18) rfl ?_); refine Kd.R_lit (Kd.int .i64) _ 3 ?hg (N := 18) ?hd (xs := ([] : List Int)) (inner := []) (ok := fun _ => True) (okp := fun _ => True) ?hr ?hp (fun _ hk => hk) trivial (Below.refl _ _) (Nat.le_refl _) (by simp) ?_; (case hd => rfl); (case hg => rfl); (case hr => first | (go_simp; done) | (go_simp; rfl)); (case hp => exact (Reps.none _ _)); intro v18 w2 ho hb hg_ hnew_; have HK2 := zzm (Kd.R_lower (Kd.R_mono (Kd.R_bound (Kd.R_newB ho BK1.out)) (fun k hk => (⟨Nat.le_trans HB1.out.size hk.2.1, hk.1.2⟩ : w.heap.size ≤ k ∧ k ≠ g1))) HB1.out.size); have HB2 := zzm (zzp HB1.out hb); have BK2 := zzm (zzh BK1.out hb); clear hg_ hnew_ ho hb; obtain ⟨Ak, ck, e_⟩ := Kd.R_slice HK2.out; subst e_) | ((with_reducible refine gate_dst (N := 20) rfl ?_); refine Kd.R_lit (Kd.int .i64) _ 3 ?hg (N := 20) ?hd (xs := ([1] : List Int)) (inner := [.int .i64 1]) (ok := fun _ => True) (okp := fun _ => True) ?hr ?hp (fun _ hk => hk) trivial (Below.refl _ _) (Nat.le_refl _) (by simp) ?_; (case hd => rfl); (case hg => rfl); (case hr => first | (go_simp; done) | (go_simp; rfl)); (case hp => exact (Reps.one (show Kd.M (Kd.int .i64) _ _ _ 1 [.int .i64 1] from rfl) (Reps.none _ _))); intro v20 w3 ho hb hg_ hnew_; have HV3 := zzm (Kd.R_lower (Kd.R_mono (Kd.R_bound (Kd.R_newB ho BK2.out)) (fun k hk => (⟨Nat.le_trans HB2.out.size hk.2.1, hk.1.2⟩ : w.heap.size ≤ k ∧ k ≠ g1))) HB2.out.size); have HB3 := zzm (zzp HB2.out hb); have BK3 := zzm (zzh BK2.out hb); have HK3 := zzm (Kd.R_below HK2.out hb); clear hg_ hnew_ ho hb; obtain ⟨Av, cv, e_⟩ := Kd.R_slice HV3.out; subst e_) | ((with_reducible refine gate_dst (N := 13) rfl ?_); refine box_event ?hg (N := 13) ?hd (cs := #[.int .i64 0, .int .i64 0, .bool false, .slice none 0 0, .bool false, .slice none 0 0]) (t := 34) ?hr ?_; (case hd => rfl); (case hg => rfl); (case hr => first | (go_simp; done) | (go_simp; rfl)); intro g2 hg w4 hbox hb; have HB4 := zzm (zzp HB3.out hb); have BK4 := zzm (zzh BK3.out hb); have HK4 := zzm (Kd.R_below HK3.out hb); have HV4 := zzm (Kd.R_below HV3.out hb); have BX := zzm hbox; have GE2 := zzm (show w.heap.size ≤ g2 by rw [hg]; exact HB3.out.size); have NE := zzm (show g1 ≠ g2 by rw [hg]; exact Nat.ne_of_lt (blk_lt BK3.out)); clear hb hbox hg; have hz0 : w4.cell? ⟨_, 0, none⟩ = some _ := (zzk BX.out 0).trans rfl; have hf0 := zzl BX.out 0; have hz1 : w4.cell? ⟨_, 1, none⟩ = some _ := (zzk BX.out 1).trans rfl; have hf1 := zzl BX.out 1; have hz2 : w4.cell? ⟨_, 2, none⟩ = some _ := (zzk BX.out 2).trans rfl; have hf2 := zzl BX.out 2; have hz3 : w4.cell? ⟨_, 3, none⟩ = some _ := (zzk BX.out 3).trans rfl; have hf3 := zzl BX.out 3; have hz4 : w4.cell? ⟨_, 4, none⟩ = some _ := (zzk BX.out 4).trans rfl; have hf4 := zzl BX.out 4; have hz5 : w4.cell? ⟨_, 5, none⟩ = some _ := (zzk BX.out 5).trans rfl; have hf5 := zzl BX.out 5))
   have HK5 := zzm (Kd.R_mono (Kd.R_far (p := ⟨g2, 5, none⟩) (Kd.R_far (p := ⟨g2, 4, none⟩) (Kd.R_far (p := ⟨g2, 3, none⟩) (Kd.R_far (p := ⟨g2, 2, none⟩) (Kd.R_far (p := ⟨g2, 1, none⟩) (Kd.R_far (p := ⟨g2, 0, none⟩) (Kd.R_types HK4.out BX.out (by decide)) (fun _ hk => hk.2) (.int .i64 a2)) (fun _ hk => hk.2) (.int .i64 a3)) (fun _ hk => hk.2) (.bool false)) (fun _ hk => hk.2) (.slice Ak ([] : List Int).length ck)) (fun _ hk => hk.2) (.bool true)) (fun _ hk => hk.2) (.slice Av ([1] : List Int).length cv)) (fun k hk => hk.1))
   have HV5 := zzm (Kd.R_mono (Kd.R_far (p := ⟨g2, 5, none⟩) (Kd.R_far (p := ⟨g2, 4, none⟩) (Kd.R_far (p := ⟨g2, 3, none⟩) (Kd.R_far (p := ⟨g2, 2, none⟩) (Kd.R_far (p := ⟨g2, 1, none⟩) (Kd.R_far (p := ⟨g2, 0, none⟩) (Kd.R_types HV4.out BX.out (by decide)) (fun _ hk => hk.2) (.int .i64 a2)) (fun _ hk => hk.2) (.int .i64 a3)) (fun _ hk => hk.2) (.bool false)) (fun _ hk => hk.2) (.slice Ak ([] : List Int).length ck)) (fun _ hk => hk.2) (.bool true)) (fun _ hk => hk.2) (.slice Av ([1] : List Int).length cv)) (fun k hk => hk.1))
   have BK5 := zzm (zzj (p := ⟨g2, 5, none⟩) (zzj (p := ⟨g2, 4, none⟩) (zzj (p := ⟨g2, 3, none⟩) (zzj (p := ⟨g2, 2, none⟩) (zzj (p := ⟨g2, 1, none⟩) (zzj (p := ⟨g2, 0, none⟩) (BK4.out) NE.out (.int .i64 a2)) NE.out (.int .i64 a3)) NE.out (.bool false)) NE.out (.slice Ak ([] : List Int).length ck)) NE.out (.bool true)) NE.out (.slice Av ([1] : List Int).length cv))
   have BX5 := zzm (zzi (cs := #[.int .i64 a2, .int .i64 a3, .bool false, .slice Ak ([] : List Int).length ck, .bool true, .slice none 0 0]) (cs' := #[.int .i64 a2, .int .i64 a3, .bool false, .slice Ak ([] : List Int).length ck, .bool true, .slice Av ([1] : List Int).length cv]) (zzi (cs := #[.int .i64 a2, .int .i64 a3, .bool false, .slice Ak ([] : List Int).length ck, .bool false, .slice none 0 0]) (cs' := #[.int .i64 a2, .int .i64 a3, .bool false, .slice Ak ([] : List Int).length ck, .bool true, .slice none 0 0]) (zzi (cs := #[.int .i64 a2, .int .i64 a3, .bool false, .slice none 0 0, .bool false, .slice none 0 0]) (cs' := #[.int .i64 a2, .int .i64 a3, .bool false, .slice Ak ([] : List Int).length ck, .bool false, .slice none 0 0]) (zzi (cs := #[.int .i64 a2, .int .i64 a3, .bool false, .slice none 0 0, .bool false, .slice none 0 0]) (cs' := #[.int .i64 a2, .int .i64 a3, .bool false, .slice none 0 0, .bool false, .slice none 0 0]) (zzi (cs := #[.int .i64 a2, .int .i64 0, .bool false, .slice none 0 0, .bool false, .slice none 0 0]) (cs' := #[.int .i64 a2, .int .i64 a3, .bool false, .slice none 0 0, .bool false, .slice none 0 0]) (zzi (cs := #[.int .i64 0, .int .i64 0, .bool false, .slice none 0 0, .bool false, .slice none 0 0]) (cs' := #[.int .i64 a2, .int .i64 0, .bool false, .slice none 0 0, .bool false, .slice none 0 0]) (BX.out) 0 (.int .i64 a2) rfl) 1 (.int .i64 a3) rfl) 2 (.bool false) rfl) 3 (.slice Ak ([] : List Int).length ck) rfl) 4 (.bool true) rfl) 5 (.slice Av ([1] : List Int).length cv) rfl)
   have HB5 := zzm (zzd (zzd (zzd (zzd (zzd (zzd (HB4.out) GE2.out (j := 0) (v := .int .i64 a2)) GE2.out (j := 1) (v := .int .i64 a3)) GE2.out (j := 2) (v := .bool false)) GE2.out (j := 3) (v := .slice Ak ([] : List Int).length ck)) GE2.out (j := 4) (v := .bool true)) GE2.out (j := 5) (v := .slice Av ([1] : List Int).length cv))
   clear hz0 hz1 hz2 hz3 hz4 hz5 hf0 hf1 hf2 hf3 hf4 hf5 HB1 HB2 HB3 HB4 BK1 BK2 BK3 BK4 HK2 HK3 HK4 HV3 HV4 BX
   generalize (((((w4.setCell ⟨g2, 0, none⟩ (.int .i64 a2)).setCell ⟨g2, 1, none⟩ (.int .i64 a3)).setCell ⟨g2, 2, none⟩ (.bool false)).setCell ⟨g2, 3, none⟩ (.slice Ak ([] : List Int).length ck)).setCell ⟨g2, 4, none⟩ (.bool true)).setCell ⟨g2, 5, none⟩ (.slice Av ([1] : List Int).length cv) = w5 at HK5 HV5 BK5 BX5 HB5 ⊢
   have d0 : w5.cell? ⟨g2, 0, none⟩ = some (.int .i64 a2) := (zzk BX5.out 0).trans rfl
   have d1 : w5.cell? ⟨g2, 1, none⟩ = some (.int .i64 a3) := (zzk BX5.out 1).trans rfl
   have d2 : w5.cell? ⟨g2, 2, none⟩ = some (.bool false) := (zzk BX5.out 2).trans rfl
   have d3 : w5.cell? ⟨g2, 3, none⟩ = some (.slice Ak ([] : List Int).length ck) := (zzk BX5.out 3).trans rfl
   have d4 : w5.cell? ⟨g2, 4, none⟩ = some (.bool true) := (zzk BX5.out 4).trans rfl
   have d5 : w5.cell? ⟨g2, 5, none⟩ = some (.slice Av ([1] : List Int).length cv) := (zzk BX5.out 5).trans rfl
   go_upto_region 6 with (first | ((with_reducible refine gate_dst (N := 25) rfl ?_); refine Kd.N_lit k34 _ 34 ?hg (N' := 25) ?hd (xs := ([(⟨a2, a3, false, [], true, [1]⟩ : S34)] : List (S34))) (inner := [.int .i64 a2, .int .i64 a3, .bool false, .slice Ak ([] : List Int).length ck, .bool true, .slice Av ([1] : List Int).length cv]) (ok := (fun k => w.heap.size ≤ k ∧ k ≠ g1)) (okp := (fun k => w.heap.size ≤ k ∧ k ≠ g1)) ?hr ?hp (fun _ hk => hk) ((show ∀ k, w5.heap.size ≤ k → (fun k => w.heap.size ≤ k ∧ k ≠ g1) k from fun k hk => ⟨Nat.le_trans HB5.out.size hk, fun e => by have := blk_lt BK5.out; omega⟩) _ (Nat.le_refl _)) (Below.refl _ _) (Nat.le_refl _) (by simp) ?_; (case hd => rfl); (case hg => rfl); (case hr => first | (go_simp; done) | (go_simp; rfl)); (case hp => exact (Reps.c6 (show Kd.FK k34 _ _ (⟨a2, a3, false, [], true, [1]⟩ : S34) [.int .i64 a2, .int .i64 a3, .bool false, .slice Ak ([] : List Int).length ck, .bool true, .slice Av ([1] : List Int).length cv] from (k34_mkF _ _ (⟨a2, a3, false, [], true, [1]⟩ : S34) (Kd.R_reads' HK5.out).2.1 (Kd.R_F HK5.out) (Kd.R_reads' HV5.out).2.1 (Kd.R_F HV5.out))) (Reps.none _ _))); intro v25 w6 ho hb hg_ hnew_; have HN6 := zzm (Kd.N_lower ho HB5.out.size); have HB6 := zzm (zzp HB5.out hb); have BK6 := zzm (zzh BK5.out hb); clear hg_ hnew_ ho hb; obtain ⟨An, cn, e_⟩ := Kd.N_slice HN6.out; subst e_) | ((with_reducible refine gate_dst (N := 14) rfl ?_); refine box_event ?hg (N := 14) ?hd (cs := #[.bool false, .bool false, .int .i64 0, .int .i64 0, .int .i64 0, .slice none 0 0]) (t := 27) ?hr ?_; (case hd => rfl); (case hg => rfl); (case hr => first | (go_simp; done) | (go_simp; rfl)); intro g3 hg w7 hbox hb; have HB7 := zzm (zzp HB6.out hb); have BK7 := zzm (zzh BK6.out hb); have HN7 := zzm (Kd.N_below (Kd.N_elderB HN6.out g3 (Nat.le_of_eq hg.symm)) hb); have BY := zzm hbox; have GE3 := zzm (show w.heap.size ≤ g3 by rw [hg]; exact HB6.out.size); have NE3 := zzm (show g1 ≠ g3 by rw [hg]; exact Nat.ne_of_lt (blk_lt BK6.out)); clear hb hbox hg d0 d1 d2 d3 d4 d5; have hz0 : w7.cell? ⟨_, 0, none⟩ = some _ := (zzk BY.out 0).trans rfl; have hf0 := zzl BY.out 0; have hz1 : w7.cell? ⟨_, 1, none⟩ = some _ := (zzk BY.out 1).trans rfl; have hf1 := zzl BY.out 1; have hz2 : w7.cell? ⟨_, 2, none⟩ = some _ := (zzk BY.out 2).trans rfl; have hf2 := zzl BY.out 2; have hz3 : w7.cell? ⟨_, 3, none⟩ = some _ := (zzk BY.out 3).trans rfl; have hf3 := zzl BY.out 3; have hz4 : w7.cell? ⟨_, 4, none⟩ = some _ := (zzk BY.out 4).trans rfl; have hf4 := zzl BY.out 4; have hz5 : w7.cell? ⟨_, 5, none⟩ = some _ := (zzk BY.out 5).trans rfl; have hf5 := zzl BY.out 5))
   have HN8 := zzm (Kd.N_far (p := ⟨g3, 5, none⟩) (Kd.N_far (p := ⟨g3, 4, none⟩) (Kd.N_far (p := ⟨g3, 3, none⟩) (Kd.N_far (p := ⟨g3, 2, none⟩) (Kd.N_far (p := ⟨g3, 1, none⟩) (Kd.N_far (p := ⟨g3, 0, none⟩) (HN7.out) (fun _ hk => hk.2) (.bool false)) (fun _ hk => hk.2) (.bool true)) (fun _ hk => hk.2) (.int .i64 a0)) (fun _ hk => hk.2) (.int .i64 a1)) (fun _ hk => hk.2) (.int .i64 0)) (fun _ hk => hk.2) (.slice An ([(⟨a2, a3, false, [], true, [1]⟩ : S34)] : List S34).length cn))
   have BK8 := zzm (zzj (p := ⟨g3, 5, none⟩) (zzj (p := ⟨g3, 4, none⟩) (zzj (p := ⟨g3, 3, none⟩) (zzj (p := ⟨g3, 2, none⟩) (zzj (p := ⟨g3, 1, none⟩) (zzj (p := ⟨g3, 0, none⟩) (BK7.out) NE3.out (.bool false)) NE3.out (.bool true)) NE3.out (.int .i64 a0)) NE3.out (.int .i64 a1)) NE3.out (.int .i64 0)) NE3.out (.slice An ([(⟨a2, a3, false, [], true, [1]⟩ : S34)] : List S34).length cn))
   have BY8 := zzm (zzi (cs := #[.bool false, .bool true, .int .i64 a0, .int .i64 a1, .int .i64 0, .slice none 0 0]) (cs' := #[.bool false, .bool true, .int .i64 a0, .int .i64 a1, .int .i64 0, .slice An ([(⟨a2, a3, false, [], true, [1]⟩ : S34)] : List S34).length cn]) (zzi (cs := #[.bool false, .bool true, .int .i64 a0, .int .i64 a1, .int .i64 0, .slice none 0 0]) (cs' := #[.bool false, .bool true, .int .i64 a0, .int .i64 a1, .int .i64 0, .slice none 0 0]) (zzi (cs := #[.bool false, .bool true, .int .i64 a0, .int .i64 0, .int .i64 0, .slice none 0 0]) (cs' := #[.bool false, .bool true, .int .i64 a0, .int .i64 a1, .int .i64 0, .slice none 0 0]) (zzi (cs := #[.bool false, .bool true, .int .i64 0, .int .i64 0, .int .i64 0, .slice none 0 0]) (cs' := #[.bool false, .bool true, .int .i64 a0, .int .i64 0, .int .i64 0, .slice none 0 0]) (zzi (cs := #[.bool false, .bool false, .int .i64 0, .int .i64 0, .int .i64 0, .slice none 0 0]) (cs' := #[.bool false, .bool true, .int .i64 0, .int .i64 0, .int .i64 0, .slice none 0 0]) (zzi (cs := #[.bool false, .bool false, .int .i64 0, .int .i64 0, .int .i64 0, .slice none 0 0]) (cs' := #[.bool false, .bool false, .int .i64 0, .int .i64 0, .int .i64 0, .slice none 0 0]) (BY.out) 0 (.bool false) rfl) 1 (.bool true) rfl) 2 (.int .i64 a0) rfl) 3 (.int .i64 a1) rfl) 4 (.int .i64 0) rfl) 5 (.slice An ([(⟨a2, a3, false, [], true, [1]⟩ : S34)] : List S34).length cn) rfl)
   have HB8 := zzm (zzd (zzd (zzd (zzd (zzd (zzd (HB7.out) GE3.out (j := 0) (v := .bool false)) GE3.out (j := 1) (v := .bool true)) GE3.out (j := 2) (v := .int .i64 a0)) GE3.out (j := 3) (v := .int .i64 a1)) GE3.out (j := 4) (v := .int .i64 0)) GE3.out (j := 5) (v := .slice An ([(⟨a2, a3, false, [], true, [1]⟩ : S34)] : List S34).length cn))
   clear hz0 hz1 hz2 hz3 hz4 hz5 hf0 hf1 hf2 hf3 hf4 hf5 HB5 HB6 HB7 BK5 BK6 BK7 HN6 HN7 HK5 HV5 BX5 BY
   generalize (((((w7.setCell ⟨g3, 0, none⟩ (.bool false)).setCell ⟨g3, 1, none⟩ (.bool true)).setCell ⟨g3, 2, none⟩ (.int .i64 a0)).setCell ⟨g3, 3, none⟩ (.int .i64 a1)).setCell ⟨g3, 4, none⟩ (.int .i64 0)).setCell ⟨g3, 5, none⟩ (.slice An ([(⟨a2, a3, false, [], true, [1]⟩ : S34)] : List S34).length cn) = w8 at HN8 BK8 BY8 HB8 ⊢
   have d0 : w8.cell? ⟨g3, 0, none⟩ = some (.bool false) := (zzk BY8.out 0).trans rfl
   have d1 : w8.cell? ⟨g3, 1, none⟩ = some (.bool true) := (zzk BY8.out 1).trans rfl
   have d2 : w8.cell? ⟨g3, 2, none⟩ = some (.int .i64 a0) := (zzk BY8.out 2).trans rfl
   have d3 : w8.cell? ⟨g3, 3, none⟩ = some (.int .i64 a1) := (zzk BY8.out 3).trans rfl
   have d4 : w8.cell? ⟨g3, 4, none⟩ = some (.int .i64 0) := (zzk BY8.out 4).trans rfl
   have d5 : w8.cell? ⟨g3, 5, none⟩ = some (.slice An ([(⟨a2, a3, false, [], true, [1]⟩ : S34)] : List S34).length cn) := (zzk BY8.out 5).trans rfl
   go_wp2_with (((with_reducible refine gate_callee (f := 55) rfl ?_); refine goesL_ (some 28) rfl rfl Try.func55 (by kernel_rfl) rfl #[.agg #[.bool false, .bool true, .int .i64 a0, .int .i64 a1, .int .i64 0, .slice An ([(⟨a2, a3, false, [], true, [1]⟩ : S34)] : List S34).length cn]] rfl (by (try simp only [List.map_toArray, List.map_cons, List.map_nil]); first | done | rfl) ?_; (with_reducible refine (spec_BatchValid.calls k false true a0 a1 0 _ _ ([(⟨a2, a3, false, [], true, [1]⟩ : S34)] : List S34) false _ ?s1 ?s2 A7.out).mono ?_); (case s1 => exact (Kd.N_reads' HN8.out).2.2); (case s2 => exact (Kd.N_reads' HN8.out).2.1); rintro e w9 ⟨rfl, hb⟩; refine ⟨_, rfl, ?_⟩; have HN9 := zzm (Kd.N_below HN8.out hb); have BK9 := zzm (zzh BK8.out hb); have BY9 := zzm (zzh BY8.out hb); have HB9 := zzm (zzp HB8.out hb); clear hb d0 d1 d2 d3 d4 d5; have hz0 : w9.cell? ⟨_, 0, none⟩ = some _ := (zzk BK9.out 0).trans rfl; have hf0 := zzl BK9.out 0; have hz1 : w9.cell? ⟨_, 1, none⟩ = some _ := (zzk BK9.out 1).trans rfl; have hf1 := zzl BK9.out 1; have hz2 : w9.cell? ⟨_, 2, none⟩ = some _ := (zzk BK9.out 2).trans rfl; have hf2 := zzl BK9.out 2; have hz3 : w9.cell? ⟨_, 3, none⟩ = some _ := (zzk BK9.out 3).trans rfl; have hf3 := zzl BK9.out 3; have hz4 : w9.cell? ⟨_, 4, none⟩ = some _ := (zzk BK9.out 4).trans rfl; have hf4 := zzl BK9.out 4; have hz5 : w9.cell? ⟨_, 5, none⟩ = some _ := (zzk BK9.out 5).trans rfl; have hf5 := zzl BK9.out 5; have d0 : w9.cell? ⟨g3, 0, none⟩ = some (.bool false) := (zzk BY9.out 0).trans rfl; have d1 : w9.cell? ⟨g3, 1, none⟩ = some (.bool true) := (zzk BY9.out 1).trans rfl; have d2 : w9.cell? ⟨g3, 2, none⟩ = some (.int .i64 a0) := (zzk BY9.out 2).trans rfl; have d3 : w9.cell? ⟨g3, 3, none⟩ = some (.int .i64 a1) := (zzk BY9.out 3).trans rfl; have d4 : w9.cell? ⟨g3, 4, none⟩ = some (.int .i64 0) := (zzk BY9.out 4).trans rfl; have d5 : w9.cell? ⟨g3, 5, none⟩ = some (.slice An ([(⟨a2, a3, false, [], true, [1]⟩ : S34)] : List S34).length cn) := (zzk BY9.out 5).trans rfl))
   refine bodyPost_ret (results_ct rfl _ _ g1 27 #[.bool false, .bool false, .int .i64 0, .int .i64 0, .int .i64 0, .slice none 0 0] (0, 0) _ rfl (zzi (cs := #[.bool false, .bool false, .int .i64 0, .int .i64 0, .int .i64 0, .slice none 0 0]) (cs' := #[.bool false, .bool false, .int .i64 0, .int .i64 0, .int .i64 0, .slice none 0 0]) (zzi (cs := #[.bool false, .bool false, .int .i64 0, .int .i64 0, .int .i64 0, .slice none 0 0]) (cs' := #[.bool false, .bool false, .int .i64 0, .int .i64 0, .int .i64 0, .slice none 0 0]) (zzi (cs := #[.bool false, .bool false, .int .i64 0, .int .i64 0, .int .i64 0, .slice none 0 0]) (cs' := #[.bool false, .bool false, .int .i64 0, .int .i64 0, .int .i64 0, .slice none 0 0]) (zzi (cs := #[.bool false, .bool false, .int .i64 0, .int .i64 0, .int .i64 0, .slice none 0 0]) (cs' := #[.bool false, .bool false, .int .i64 0, .int .i64 0, .int .i64 0, .slice none 0 0]) (zzi (cs := #[.bool false, .bool false, .int .i64 0, .int .i64 0, .int .i64 0, .slice none 0 0]) (cs' := #[.bool false, .bool false, .int .i64 0, .int .i64 0, .int .i64 0, .slice none 0 0]) (zzi (cs := #[.bool false, .bool false, .int .i64 0, .int .i64 0, .int .i64 0, .slice none 0 0]) (cs' := #[.bool false, .bool false, .int .i64 0, .int .i64 0, .int .i64 0, .slice none 0 0]) (BK9.out) 0 (.bool false) rfl) 1 (.bool false) rfl) 2 (.int .i64 0) rfl) 3 (.int .i64 0) rfl) 4 (.int .i64 0) rfl) 5 (.slice none 0 0) rfl) Try.underlying27 rfl (by kernel_rfl)) rfl ?_
   exact ⟨_, rfl, Kd.N_nil _ _ _ _ _, zzd (zzd (zzd (zzd (zzd (zzd (HB9.out) GE1.out (j := 0) (v := .bool false)) GE1.out (j := 1) (v := .bool false)) GE1.out (j := 2) (v := .int .i64 0)) GE1.out (j := 3) (v := .int .i64 0)) GE1.out (j := 4) (v := .int .i64 0)) GE1.out (j := 5) (v := .slice none 0 0)⟩
 | false =>
  cases t with
  | true =>
   simp only [if_true, Bool.false_eq_true, if_false, Option.some.injEq, Prod.mk.injEq] at h A7
   obtain ⟨rfl, rfl, rfl, rfl, rfl, rfl, rfl⟩ := h
   go_enter Try.func20, Try.ntmps20
   go_upto_region 5 with (first | ((with_reducible refine gate_dst (N := 10) rfl ?_); refine box_event ?hg (N := 10) ?hd (cs := #[.bool false, .bool false, .int .i64 0, .int .i64 0, .int .i64 0, .slice none 0 0]) (t := 27) ?hr ?_; (case hd => rfl); (case hg => rfl); (case hr => first | (go_simp; done) | (go_simp; rfl)); intro g1 hg w1 hbox hb; have HB1 := zzm (zzp HB.out hb); have BK1 := zzm hbox; have GE1 := zzm (show w.heap.size ≤ g1 by rw [hg]; exact HB.out.size); clear hb hbox hg) | ((with_reducible refine gate_dst (N := 18) rfl ?_); refine Kd.R_lit (Kd.int .i64) _ 3 ?hg (N := 18) ?hd (xs := ([] : List Int)) (inner := []) (ok := fun _ => True) (okp := fun _ => True) ?hr ?hp (fun _ hk => hk) trivial (Below.refl _ _) (Nat.le_refl _) (by simp) ?_; (case hd => rfl); (case hg => rfl); (case hr => first | (go_simp; done) | (go_simp; rfl)); (case hp => exact (Reps.none _ _)); intro v18 w2 ho hb hg_ hnew_; have HK2 := zzm (Kd.R_lower (Kd.R_mono (Kd.R_bound (Kd.R_newB ho BK1.out)) (fun k hk => (⟨Nat.le_trans HB1.out.size hk.2.1, hk.1.2⟩ : w.heap.size ≤ k ∧ k ≠ g1))) HB1.out.size); have HB2 := zzm (zzp HB1.out hb); have BK2 := zzm (zzh BK1.out hb); clear hg_ hnew_ ho hb; obtain ⟨Ak, ck, e_⟩ := Kd.R_slice HK2.out; subst e_) | ((with_reducible refine gate_dst (N := 20) rfl ?_); refine Kd.R_lit (Kd.int .i64) _ 3 ?hg (N := 20) ?hd (xs := ([0] : List Int)) (inner := [.int .i64 0]) (ok := fun _ => True) (okp := fun _ => True) ?hr ?hp (fun _ hk => hk) trivial (Below.refl _ _) (Nat.le_refl _) (by simp) ?_; (case hd => rfl); (case hg => rfl); (case hr => first | (go_simp; done) | (go_simp; rfl)); (case hp => exact (Reps.one (show Kd.M (Kd.int .i64) _ _ _ 0 [.int .i64 0] from rfl) (Reps.none _ _))); intro v20 w3 ho hb hg_ hnew_; have HV3 := zzm (Kd.R_lower (Kd.R_mono (Kd.R_bound (Kd.R_newB ho BK2.out)) (fun k hk => (⟨Nat.le_trans HB2.out.size hk.2.1, hk.1.2⟩ : w.heap.size ≤ k ∧ k ≠ g1))) HB2.out.size); have HB3 := zzm (zzp HB2.out hb); have BK3 := zzm (zzh BK2.out hb); have HK3 := zzm (Kd.R_below HK2.out hb); clear hg_ hnew_ ho hb; obtain ⟨Av, cv, e_⟩ := Kd.R_slice HV3.out; subst e_) | ((with_reducible refine gate_dst (N := 13) rfl ?_); refine box_event ?hg (N := 13) ?hd (cs := #[.int .i64 0, .int .i64 0, .bool false, .slice none 0 0, .bool false, .slice none 0 0]) (t := 34) ?hr ?_; (case hd => rfl); (case hg => rfl); (case hr => first | (go_simp; done) | (go_simp; rfl)); intro g2 hg w4 hbox hb; have HB4 := zzm (zzp HB3.out hb); have BK4 := zzm (zzh BK3.out hb); have HK4 := zzm (Kd.R_below HK3.out hb); have HV4 := zzm (Kd.R_below HV3.out hb); have BX := zzm hbox; have GE2 := zzm (show w.heap.size ≤ g2 by rw [hg]; exact HB3.out.size); have NE := zzm (show g1 ≠ g2 by rw [hg]; exact Nat.ne_of_lt (blk_lt BK3.out)); clear hb hbox hg; have hz0 : w4.cell? ⟨_, 0, none⟩ = some _ := (zzk BX.out 0).trans rfl; have hf0 := zzl BX.out 0; have hz1 : w4.cell? ⟨_, 1, none⟩ = some _ := (zzk BX.out 1).trans rfl; have hf1 := zzl BX.out 1; have hz2 : w4.cell? ⟨_, 2, none⟩ = some _ := (zzk BX.out 2).trans rfl; have hf2 := zzl BX.out 2; have hz3 : w4.cell? ⟨_, 3, none⟩ = some _ := (zzk BX.out 3).trans rfl; have hf3 := zzl BX.out 3; have hz4 : w4.cell? ⟨_, 4, none⟩ = some _ := (zzk BX.out 4).trans rfl; have hf4 := zzl BX.out 4; have hz5 : w4.cell? ⟨_, 5, none⟩ = some _ := (zzk BX.out 5).trans rfl; have hf5 := zzl BX.out 5))
   have HK5 := zzm (Kd.R_mono (Kd.R_far (p := ⟨g2, 5, none⟩) (Kd.R_far (p := ⟨g2, 4, none⟩) (Kd.R_far (p := ⟨g2, 3, none⟩) (Kd.R_far (p := ⟨g2, 2, none⟩) (Kd.R_far (p := ⟨g2, 1, none⟩) (Kd.R_far (p := ⟨g2, 0, none⟩) (Kd.R_types HK4.out BX.out (by decide)) (fun _ hk => hk.2) (.int .i64 a2)) (fun _ hk => hk.2) (.int .i64 a3)) (fun _ hk => hk.2) (.bool false)) (fun _ hk => hk.2) (.slice Ak ([] : List Int).length ck)) (fun _ hk => hk.2) (.bool true)) (fun _ hk => hk.2) (.slice Av ([0] : List Int).length cv)) (fun k hk => hk.1))
   have HV5 := zzm (Kd.R_mono (Kd.R_far (p := ⟨g2, 5, none⟩) (Kd.R_far (p := ⟨g2, 4, none⟩) (Kd.R_far (p := ⟨g2, 3, none⟩) (Kd.R_far (p := ⟨g2, 2, none⟩) (Kd.R_far (p := ⟨g2, 1, none⟩) (Kd.R_far (p := ⟨g2, 0, none⟩) (Kd.R_types HV4.out BX.out (by decide)) (fun _ hk => hk.2) (.int .i64 a2)) (fun _ hk => hk.2) (.int .i64 a3)) (fun _ hk => hk.2) (.bool false)) (fun _ hk => hk.2) (.slice Ak ([] : List Int).length ck)) (fun _ hk => hk.2) (.bool true)) (fun _ hk => hk.2) (.slice Av ([0] : List Int).length cv)) (fun k hk => hk.1))
   have BK5 := zzm (zzj (p := ⟨g2, 5, none⟩) (zzj (p := ⟨g2, 4, none⟩) (zzj (p := ⟨g2, 3, none⟩) (zzj (p := ⟨g2, 2, none⟩) (zzj (p := ⟨g2, 1, none⟩) (zzj (p := ⟨g2, 0, none⟩) (BK4.out) NE.out (.int .i64 a2)) NE.out (.int .i64 a3)) NE.out (.bool false)) NE.out (.slice Ak ([] : List Int).length ck)) NE.out (.bool true)) NE.out (.slice Av ([0] : List Int).length cv))
   have BX5 := zzm (zzi (cs := #[.int .i64 a2, .int .i64 a3, .bool false, .slice Ak ([] : List Int).length ck, .bool true, .slice none 0 0]) (cs' := #[.int .i64 a2, .int .i64 a3, .bool false, .slice Ak ([] : List Int).length ck, .bool true, .slice Av ([0] : List Int).length cv]) (zzi (cs := #[.int .i64 a2, .int .i64 a3, .bool false, .slice Ak ([] : List Int).length ck, .bool false, .slice none 0 0]) (cs' := #[.int .i64 a2, .int .i64 a3, .bool false, .slice Ak ([] : List Int).length ck, .bool true, .slice none 0 0]) (zzi (cs := #[.int .i64 a2, .int .i64 a3, .bool false, .slice none 0 0, .bool false, .slice none 0 0]) (cs' := #[.int .i64 a2, .int .i64 a3, .bool false, .slice Ak ([] : List Int).length ck, .bool false, .slice none 0 0]) (zzi (cs := #[.int .i64 a2, .int .i64 a3, .bool false, .slice none 0 0, .bool false, .slice none 0 0]) (cs' := #[.int .i64 a2, .int .i64 a3, .bool false, .slice none 0 0, .bool false, .slice none 0 0]) (zzi (cs := #[.int .i64 a2, .int .i64 0, .bool false, .slice none 0 0, .bool false, .slice none 0 0]) (cs' := #[.int .i64 a2, .int .i64 a3, .bool false, .slice none 0 0, .bool false, .slice none 0 0]) (zzi (cs := #[.int .i64 0, .int .i64 0, .bool false, .slice none 0 0, .bool false, .slice none 0 0]) (cs' := #[.int .i64 a2, .int .i64 0, .bool false, .slice none 0 0, .bool false, .slice none 0 0]) (BX.out) 0 (.int .i64 a2) rfl) 1 (.int .i64 a3) rfl) 2 (.bool false) rfl) 3 (.slice Ak ([] : List Int).length ck) rfl) 4 (.bool true) rfl) 5 (.slice Av ([0] : List Int).length cv) rfl)
   have HB5 := zzm (zzd (zzd (zzd (zzd (zzd (zzd (HB4.out) GE2.out (j := 0) (v := .int .i64 a2)) GE2.out (j := 1) (v := .int .i64 a3)) GE2.out (j := 2) (v := .bool false)) GE2.out (j := 3) (v := .slice Ak ([] : List Int).length ck)) GE2.out (j := 4) (v := .bool true)) GE2.out (j := 5) (v := .slice Av ([0] : List Int).length cv))
   clear hz0 hz1 hz2 hz3 hz4 hz5 hf0 hf1 hf2 hf3 hf4 hf5 HB1 HB2 HB3 HB4 BK1 BK2 BK3 BK4 HK2 HK3 HK4 HV3 HV4 BX
   generalize (((((w4.setCell ⟨g2, 0, none⟩ (.int .i64 a2)).setCell ⟨g2, 1, none⟩ (.int .i64 a3)).setCell ⟨g2, 2, none⟩ (.bool false)).setCell ⟨g2, 3, none⟩ (.slice Ak ([] : List Int).length ck)).setCell ⟨g2, 4, none⟩ (.bool true)).setCell ⟨g2, 5, none⟩ (.slice Av ([0] : List Int).length cv) = w5 at HK5 HV5 BK5 BX5 HB5 ⊢
   have d0 : w5.cell? ⟨g2, 0, none⟩ = some (.int .i64 a2) := (zzk BX5.out 0).trans rfl
   have d1 : w5.cell? ⟨g2, 1, none⟩ = some (.int .i64 a3) := (zzk BX5.out 1).trans rfl
   have d2 : w5.cell? ⟨g2, 2, none⟩ = some (.bool false) := (zzk BX5.out 2).trans rfl
   have d3 : w5.cell? ⟨g2, 3, none⟩ = some (.slice Ak ([] : List Int).length ck) := (zzk BX5.out 3).trans rfl
   have d4 : w5.cell? ⟨g2, 4, none⟩ = some (.bool true) := (zzk BX5.out 4).trans rfl
   have d5 : w5.cell? ⟨g2, 5, none⟩ = some (.slice Av ([0] : List Int).length cv) := (zzk BX5.out 5).trans rfl
   go_upto_region 6 with (first | ((with_reducible refine gate_dst (N := 25) rfl ?_); refine Kd.N_lit k34 _ 34 ?hg (N' := 25) ?hd (xs := ([(⟨a2, a3, false, [], true, [0]⟩ : S34)] : List (S34))) (inner := [.int .i64 a2, .int .i64 a3, .bool false, .slice Ak ([] : List Int).length ck, .bool true, .slice Av ([0] : List Int).length cv]) (ok := (fun k => w.heap.size ≤ k ∧ k ≠ g1)) (okp := (fun k => w.heap.size ≤ k ∧ k ≠ g1)) ?hr ?hp (fun _ hk => hk) ((show ∀ k, w5.heap.size ≤ k → (fun k => w.heap.size ≤ k ∧ k ≠ g1) k from fun k hk => ⟨Nat.le_trans HB5.out.size hk, fun e => by have := blk_lt BK5.out; omega⟩) _ (Nat.le_refl _)) (Below.refl _ _) (Nat.le_refl _) (by simp) ?_; (case hd => rfl); (case hg => rfl); (case hr => first | (go_simp; done) | (go_simp; rfl)); (case hp => exact (Reps.c6 (show Kd.FK k34 _ _ (⟨a2, a3, false, [], true, [0]⟩ : S34) [.int .i64 a2, .int .i64 a3, .bool false, .slice Ak ([] : List Int).length ck, .bool true, .slice Av ([0] : List Int).length cv] from (k34_mkF _ _ (⟨a2, a3, false, [], true, [0]⟩ : S34) (Kd.R_reads' HK5.out).2.1 (Kd.R_F HK5.out) (Kd.R_reads' HV5.out).2.1 (Kd.R_F HV5.out))) (Reps.none _ _))); intro v25 w6 ho hb hg_ hnew_; have HN6 := zzm (Kd.N_lower ho HB5.out.size); have HB6 := zzm (zzp HB5.out hb); have BK6 := zzm (zzh BK5.out hb); clear hg_ hnew_ ho hb; obtain ⟨An, cn, e_⟩ := Kd.N_slice HN6.out; subst e_) | ((with_reducible refine gate_dst (N := 14) rfl ?_); refine box_event ?hg (N := 14) ?hd (cs := #[.bool false, .bool false, .int .i64 0, .int .i64 0, .int .i64 0, .slice none 0 0]) (t := 27) ?hr ?_; (case hd => rfl); (case hg => rfl); (case hr => first | (go_simp; done) | (go_simp; rfl)); intro g3 hg w7 hbox hb; have HB7 := zzm (zzp HB6.out hb); have BK7 := zzm (zzh BK6.out hb); have HN7 := zzm (Kd.N_below (Kd.N_elderB HN6.out g3 (Nat.le_of_eq hg.symm)) hb); have BY := zzm hbox; have GE3 := zzm (show w.heap.size ≤ g3 by rw [hg]; exact HB6.out.size); have NE3 := zzm (show g1 ≠ g3 by rw [hg]; exact Nat.ne_of_lt (blk_lt BK6.out)); clear hb hbox hg d0 d1 d2 d3 d4 d5; have hz0 : w7.cell? ⟨_, 0, none⟩ = some _ := (zzk BY.out 0).trans rfl; have hf0 := zzl BY.out 0; have hz1 : w7.cell? ⟨_, 1, none⟩ = some _ := (zzk BY.out 1).trans rfl; have hf1 := zzl BY.out 1; have hz2 : w7.cell? ⟨_, 2, none⟩ = some _ := (zzk BY.out 2).trans rfl; have hf2 := zzl BY.out 2; have hz3 : w7.cell? ⟨_, 3, none⟩ = some _ := (zzk BY.out 3).trans rfl; have hf3 := zzl BY.out 3; have hz4 : w7.cell? ⟨_, 4, none⟩ = some _ := (zzk BY.out 4).trans rfl; have hf4 := zzl BY.out 4; have hz5 : w7.cell? ⟨_, 5, none⟩ = some _ := (zzk BY.out 5).trans rfl; have hf5 := zzl BY.out 5))
   have HN8 := zzm (Kd.N_far (p := ⟨g3, 5, none⟩) (Kd.N_far (p := ⟨g3, 4, none⟩) (Kd.N_far (p := ⟨g3, 3, none⟩) (Kd.N_far (p := ⟨g3, 2, none⟩) (Kd.N_far (p := ⟨g3, 1, none⟩) (Kd.N_far (p := ⟨g3, 0, none⟩) (HN7.out) (fun _ hk => hk.2) (.bool false)) (fun _ hk => hk.2) (.bool true)) (fun _ hk => hk.2) (.int .i64 a0)) (fun _ hk => hk.2) (.int .i64 a1)) (fun _ hk => hk.2) (.int .i64 0)) (fun _ hk => hk.2) (.slice An ([(⟨a2, a3, false, [], true, [0]⟩ : S34)] : List S34).length cn))
   have BK8 := zzm (zzj (p := ⟨g3, 5, none⟩) (zzj (p := ⟨g3, 4, none⟩) (zzj (p := ⟨g3, 3, none⟩) (zzj (p := ⟨g3, 2, none⟩) (zzj (p := ⟨g3, 1, none⟩) (zzj (p := ⟨g3, 0, none⟩) (BK7.out) NE3.out (.bool false)) NE3.out (.bool true)) NE3.out (.int .i64 a0)) NE3.out (.int .i64 a1)) NE3.out (.int .i64 0)) NE3.out (.slice An ([(⟨a2, a3, false, [], true, [0]⟩ : S34)] : List S34).length cn))
   have BY8 := zzm (zzi (cs := #[.bool false, .bool true, .int .i64 a0, .int .i64 a1, .int .i64 0, .slice none 0 0]) (cs' := #[.bool false, .bool true, .int .i64 a0, .int .i64 a1, .int .i64 0, .slice An ([(⟨a2, a3, false, [], true, [0]⟩ : S34)] : List S34).length cn]) (zzi (cs := #[.bool false, .bool true, .int .i64 a0, .int .i64 a1, .int .i64 0, .slice none 0 0]) (cs' := #[.bool false, .bool true, .int .i64 a0, .int .i64 a1, .int .i64 0, .slice none 0 0]) (zzi (cs := #[.bool false, .bool true, .int .i64 a0, .int .i64 0, .int .i64 0, .slice none 0 0]) (cs' := #[.bool false, .bool true, .int .i64 a0, .int .i64 a1, .int .i64 0, .slice none 0 0]) (zzi (cs := #[.bool false, .bool true, .int .i64 0, .int .i64 0, .int .i64 0, .slice none 0 0]) (cs' := #[.bool false, .bool true, .int .i64 a0, .int .i64 0, .int .i64 0, .slice none 0 0]) (zzi (cs := #[.bool false, .bool false, .int .i64 0, .int .i64 0, .int .i64 0, .slice none 0 0]) (cs' := #[.bool false, .bool true, .int .i64 0, .int .i64 0, .int .i64 0, .slice none 0 0]) (zzi (cs := #[.bool false, .bool false, .int .i64 0, .int .i64 0, .int .i64 0, .slice none 0 0]) (cs' := #[.bool false, .bool false, .int .i64 0, .int .i64 0, .int .i64 0, .slice none 0 0]) (BY.out) 0 (.bool false) rfl) 1 (.bool true) rfl) 2 (.int .i64 a0) rfl) 3 (.int .i64 a1) rfl) 4 (.int .i64 0) rfl) 5 (.slice An ([(⟨a2, a3, false, [], true, [0]⟩ : S34)] : List S34).length cn) rfl)
   have HB8 := zzm (zzd (zzd (zzd (zzd (zzd (zzd (HB7.out) GE3.out (j := 0) (v := .bool false)) GE3.out (j := 1) (v := .bool true)) GE3.out (j := 2) (v := .int .i64 a0)) GE3.out (j := 3) (v := .int .i64 a1)) GE3.out (j := 4) (v := .int .i64 0)) GE3.out (j := 5) (v := .slice An ([(⟨a2, a3, false, [], true, [0]⟩ : S34)] : List S34).length cn))
   clear hz0 hz1 hz2 hz3 hz4 hz5 hf0 hf1 hf2 hf3 hf4 hf5 HB5 HB6 HB7 BK5 BK6 BK7 HN6 HN7 HK5 HV5 BX5 BY
   generalize (((((w7.setCell ⟨g3, 0, none⟩ (.bool false)).setCell ⟨g3, 1, none⟩ (.bool true)).setCell ⟨g3, 2, none⟩ (.int .i64 a0)).setCell ⟨g3, 3, none⟩ (.int .i64 a1)).setCell ⟨g3, 4, none⟩ (.int .i64 0)).setCell ⟨g3, 5, none⟩ (.slice An ([(⟨a2, a3, false, [], true, [0]⟩ : S34)] : List S34).length cn) = w8 at HN8 BK8 BY8 HB8 ⊢
   have d0 : w8.cell? ⟨g3, 0, none⟩ = some (.bool false) := (zzk BY8.out 0).trans rfl
   have d1 : w8.cell? ⟨g3, 1, none⟩ = some (.bool true) := (zzk BY8.out 1).trans rfl
   have d2 : w8.cell? ⟨g3, 2, none⟩ = some (.int .i64 a0) := (zzk BY8.out 2).trans rfl
   have d3 : w8.cell? ⟨g3, 3, none⟩ = some (.int .i64 a1) := (zzk BY8.out 3).trans rfl
   have d4 : w8.cell? ⟨g3, 4, none⟩ = some (.int .i64 0) := (zzk BY8.out 4).trans rfl
   have d5 : w8.cell? ⟨g3, 5, none⟩ = some (.slice An ([(⟨a2, a3, false, [], true, [0]⟩ : S34)] : List S34).length cn) := (zzk BY8.out 5).trans rfl
   go_wp2_with (((with_reducible refine gate_callee (f := 55) rfl ?_); refine goesL_ (some 28) rfl rfl Try.func55 (by kernel_rfl) rfl #[.agg #[.bool false, .bool true, .int .i64 a0, .int .i64 a1, .int .i64 0, .slice An ([(⟨a2, a3, false, [], true, [0]⟩ : S34)] : List S34).length cn]] rfl (by (try simp only [List.map_toArray, List.map_cons, List.map_nil]); first | done | rfl) ?_; (with_reducible refine (spec_BatchValid.calls k false true a0 a1 0 _ _ ([(⟨a2, a3, false, [], true, [0]⟩ : S34)] : List S34) true _ ?s1 ?s2 A7.out).mono ?_); (case s1 => exact (Kd.N_reads' HN8.out).2.2); (case s2 => exact (Kd.N_reads' HN8.out).2.1); rintro e w9 ⟨rfl, hb⟩; refine ⟨_, rfl, ?_⟩; have HN9 := zzm (Kd.N_below HN8.out hb); have BK9 := zzm (zzh BK8.out hb); have BY9 := zzm (zzh BY8.out hb); have HB9 := zzm (zzp HB8.out hb); clear hb d0 d1 d2 d3 d4 d5; have hz0 : w9.cell? ⟨_, 0, none⟩ = some _ := (zzk BK9.out 0).trans rfl; have hf0 := zzl BK9.out 0; have hz1 : w9.cell? ⟨_, 1, none⟩ = some _ := (zzk BK9.out 1).trans rfl; have hf1 := zzl BK9.out 1; have hz2 : w9.cell? ⟨_, 2, none⟩ = some _ := (zzk BK9.out 2).trans rfl; have hf2 := zzl BK9.out 2; have hz3 : w9.cell? ⟨_, 3, none⟩ = some _ := (zzk BK9.out 3).trans rfl; have hf3 := zzl BK9.out 3; have hz4 : w9.cell? ⟨_, 4, none⟩ = some _ := (zzk BK9.out 4).trans rfl; have hf4 := zzl BK9.out 4; have hz5 : w9.cell? ⟨_, 5, none⟩ = some _ := (zzk BK9.out 5).trans rfl; have hf5 := zzl BK9.out 5; have d0 : w9.cell? ⟨g3, 0, none⟩ = some (.bool false) := (zzk BY9.out 0).trans rfl; have d1 : w9.cell? ⟨g3, 1, none⟩ = some (.bool true) := (zzk BY9.out 1).trans rfl; have d2 : w9.cell? ⟨g3, 2, none⟩ = some (.int .i64 a0) := (zzk BY9.out 2).trans rfl; have d3 : w9.cell? ⟨g3, 3, none⟩ = some (.int .i64 a1) := (zzk BY9.out 3).trans rfl; have d4 : w9.cell? ⟨g3, 4, none⟩ = some (.int .i64 0) := (zzk BY9.out 4).trans rfl; have d5 : w9.cell? ⟨g3, 5, none⟩ = some (.slice An ([(⟨a2, a3, false, [], true, [0]⟩ : S34)] : List S34).length cn) := (zzk BY9.out 5).trans rfl))
   refine bodyPost_ret (results_ct rfl _ _ g1 27 #[.bool false, .bool true, .int .i64 a0, .int .i64 a1, .int .i64 0, .slice An ([(⟨a2, a3, false, [], true, [0]⟩ : S34)] : List S34).length cn] (0, 0) _ rfl (zzi (cs := #[.bool false, .bool true, .int .i64 a0, .int .i64 a1, .int .i64 0, .slice none 0 0]) (cs' := #[.bool false, .bool true, .int .i64 a0, .int .i64 a1, .int .i64 0, .slice An ([(⟨a2, a3, false, [], true, [0]⟩ : S34)] : List S34).length cn]) (zzi (cs := #[.bool false, .bool true, .int .i64 a0, .int .i64 a1, .int .i64 0, .slice none 0 0]) (cs' := #[.bool false, .bool true, .int .i64 a0, .int .i64 a1, .int .i64 0, .slice none 0 0]) (zzi (cs := #[.bool false, .bool true, .int .i64 a0, .int .i64 0, .int .i64 0, .slice none 0 0]) (cs' := #[.bool false, .bool true, .int .i64 a0, .int .i64 a1, .int .i64 0, .slice none 0 0]) (zzi (cs := #[.bool false, .bool true, .int .i64 0, .int .i64 0, .int .i64 0, .slice none 0 0]) (cs' := #[.bool false, .bool true, .int .i64 a0, .int .i64 0, .int .i64 0, .slice none 0 0]) (zzi (cs := #[.bool false, .bool false, .int .i64 0, .int .i64 0, .int .i64 0, .slice none 0 0]) (cs' := #[.bool false, .bool true, .int .i64 0, .int .i64 0, .int .i64 0, .slice none 0 0]) (zzi (cs := #[.bool false, .bool false, .int .i64 0, .int .i64 0, .int .i64 0, .slice none 0 0]) (cs' := #[.bool false, .bool false, .int .i64 0, .int .i64 0, .int .i64 0, .slice none 0 0]) (BK9.out) 0 (.bool false) rfl) 1 (.bool true) rfl) 2 (.int .i64 a0) rfl) 3 (.int .i64 a1) rfl) 4 (.int .i64 0) rfl) 5 (.slice An ([(⟨a2, a3, false, [], true, [0]⟩ : S34)] : List S34).length cn) rfl) Try.underlying27 rfl (by kernel_rfl)) rfl ?_
   exact ⟨_, rfl, Kd.N_mono (Kd.N_far (p := ⟨g1, 5, none⟩) (Kd.N_far (p := ⟨g1, 4, none⟩) (Kd.N_far (p := ⟨g1, 3, none⟩) (Kd.N_far (p := ⟨g1, 2, none⟩) (Kd.N_far (p := ⟨g1, 1, none⟩) (Kd.N_far (p := ⟨g1, 0, none⟩) (Kd.N_mono HN9.out (fun k hk => (⟨hk.1.1, hk.1.2⟩ : _ ∧ k ≠ g1))) (fun _ hk => hk.2) (.bool false)) (fun _ hk => hk.2) (.bool true)) (fun _ hk => hk.2) (.int .i64 a0)) (fun _ hk => hk.2) (.int .i64 a1)) (fun _ hk => hk.2) (.int .i64 0)) (fun _ hk => hk.2) (.slice An ([(⟨a2, a3, false, [], true, [0]⟩ : S34)] : List S34).length cn)) (fun _ hk => hk.1), zzd (zzd (zzd (zzd (zzd (zzd (HB9.out) GE1.out (j := 0) (v := .bool false)) GE1.out (j := 1) (v := .bool true)) GE1.out (j := 2) (v := .int .i64 a0)) GE1.out (j := 3) (v := .int .i64 a1)) GE1.out (j := 4) (v := .int .i64 0)) GE1.out (j := 5) (v := .slice An ([(⟨a2, a3, false, [], true, [0]⟩ : S34)] : List S34).length cn)⟩
  | false =>
   simp only [if_true, Bool.false_eq_true, if_false, Option.some.injEq, Prod.mk.injEq] at h A7
   obtain ⟨rfl, rfl, rfl, rfl, rfl, rfl, rfl⟩ := h
   go_enter Try.func20, Try.ntmps20
   go_upto_region 5 with (first | ((with_reducible refine gate_dst (N := 10) rfl ?_); refine box_event ?hg (N := 10) ?hd (cs := #[.bool false, .bool false, .int .i64 0, .int .i64 0, .int .i64 0, .slice none 0 0]) (t := 27) ?hr ?_; (case hd => rfl); (case hg => rfl); (case hr => first | (go_simp; done) | (go_simp; rfl)); intro g1 hg w1 hbox hb; have HB1 := zzm (zzp HB.out hb); have BK1 := zzm hbox; have GE1 := zzm (show w.heap.size ≤ g1 by rw [hg]; exact HB.out.size); clear hb hbox hg) | ((with_reducible refine gate_dst (N := 18) rfl ?_); refine Kd.R_lit (Kd.int .i64) _ 3 ?hg (N := 18) ?hd (xs := ([] : List Int)) (inner := []) (ok := fun _ => True) (okp := fun _ => True) ?hr ?hp (fun _ hk => hk) trivial (Below.refl _ _) (Nat.le_refl _) (by simp) ?_; (case hd => rfl); (case hg => rfl); (case hr => first | (go_simp; done) | (go_simp; rfl)); (case hp => exact (Reps.none _ _)); intro v18 w2 ho hb hg_ hnew_; have HK2 := zzm (Kd.R_lower (Kd.R_mono (Kd.R_bound (Kd.R_newB ho BK1.out)) (fun k hk => (⟨Nat.le_trans HB1.out.size hk.2.1, hk.1.2⟩ : w.heap.size ≤ k ∧ k ≠ g1))) HB1.out.size); have HB2 := zzm (zzp HB1.out hb); have BK2 := zzm (zzh BK1.out hb); clear hg_ hnew_ ho hb; obtain ⟨Ak, ck, e_⟩ := Kd.R_slice HK2.out; subst e_) | ((with_reducible refine gate_dst (N := 20) rfl ?_); refine Kd.R_lit (Kd.int .i64) _ 3 ?hg (N := 20) ?hd (xs := ([0] : List Int)) (inner := [.int .i64 0]) (ok := fun _ => True) (okp := fun _ => True) ?hr ?hp (fun _ hk => hk) trivial (Below.refl _ _) (Nat.le_refl _) (by simp) ?_; (case hd => rfl); (case hg => rfl); (case hr => first | (go_simp; done) | (go_simp; rfl)); (case hp => exact (Reps.one (show Kd.M (Kd.int .i64) _ _ _ 0 [.int .i64 0] from rfl) (Reps.none _ _))); intro v20 w3 ho hb hg_ hnew_; have HV3 := zzm (Kd.R_lower (Kd.R_mono (Kd.R_bound (Kd.R_newB ho BK2.out)) (fun k hk => (⟨Nat.le_trans HB2.out.size hk.2.1, hk.1.2⟩ : w.heap.size ≤ k ∧ k ≠ g1))) HB2.out.size); have HB3 := zzm (zzp HB2.out hb); have BK3 := zzm (zzh BK2.out hb); have HK3 := zzm (Kd.R_below HK2.out hb); clear hg_ hnew_ ho hb; obtain ⟨Av, cv, e_⟩ := Kd.R_slice HV3.out; subst e_) | ((with_reducible refine gate_dst (N := 13) rfl ?_); refine box_event ?hg (N := 13) ?hd (cs := #[.int .i64 0, .int .i64 0, .bool false, .slice none 0 0, .bool false, .slice none 0 0]) (t := 34) ?hr ?_; (case hd => rfl); (case hg => rfl); (case hr => first | (go_simp; done) | (go_simp; rfl)); intro g2 hg w4 hbox hb; have HB4 := zzm (zzp HB3.out hb); have BK4 := zzm (zzh BK3.out hb); have HK4 := zzm (Kd.R_below HK3.out hb); have HV4 := zzm (Kd.R_below HV3.out hb); have BX := zzm hbox; have GE2 := zzm (show w.heap.size ≤ g2 by rw [hg]; exact HB3.out.size); have NE := zzm (show g1 ≠ g2 by rw [hg]; exact Nat.ne_of_lt (blk_lt BK3.out)); clear hb hbox hg; have hz0 : w4.cell? ⟨_, 0, none⟩ = some _ := (zzk BX.out 0).trans rfl; have hf0 := zzl BX.out 0; have hz1 : w4.cell? ⟨_, 1, none⟩ = some _ := (zzk BX.out 1).trans rfl; have hf1 := zzl BX.out 1; have hz2 : w4.cell? ⟨_, 2, none⟩ = some _ := (zzk BX.out 2).trans rfl; have hf2 := zzl BX.out 2; have hz3 : w4.cell? ⟨_, 3, none⟩ = some _ := (zzk BX.out 3).trans rfl; have hf3 := zzl BX.out 3; have hz4 : w4.cell? ⟨_, 4, none⟩ = some _ := (zzk BX.out 4).trans rfl; have hf4 := zzl BX.out 4; have hz5 : w4.cell? ⟨_, 5, none⟩ = some _ := (zzk BX.out 5).trans rfl; have hf5 := zzl BX.out 5))
   have HK5 := zzm (Kd.R_mono (Kd.R_far (p := ⟨g2, 5, none⟩) (Kd.R_far (p := ⟨g2, 4, none⟩) (Kd.R_far (p := ⟨g2, 3, none⟩) (Kd.R_far (p := ⟨g2, 2, none⟩) (Kd.R_far (p := ⟨g2, 1, none⟩) (Kd.R_far (p := ⟨g2, 0, none⟩) (Kd.R_types HK4.out BX.out (by decide)) (fun _ hk => hk.2) (.int .i64 a2)) (fun _ hk => hk.2) (.int .i64 a3)) (fun _ hk => hk.2) (.bool false)) (fun _ hk => hk.2) (.slice Ak ([] : List Int).length ck)) (fun _ hk => hk.2) (.bool true)) (fun _ hk => hk.2) (.slice Av ([0] : List Int).length cv)) (fun k hk => hk.1))
   have HV5 := zzm (Kd.R_mono (Kd.R_far (p := ⟨g2, 5, none⟩) (Kd.R_far (p := ⟨g2, 4, none⟩) (Kd.R_far (p := ⟨g2, 3, none⟩) (Kd.R_far (p := ⟨g2, 2, none⟩) (Kd.R_far (p := ⟨g2, 1, none⟩) (Kd.R_far (p := ⟨g2, 0, none⟩) (Kd.R_types HV4.out BX.out (by decide)) (fun _ hk => hk.2) (.int .i64 a2)) (fun _ hk => hk.2) (.int .i64 a3)) (fun _ hk => hk.2) (.bool false)) (fun _ hk => hk.2) (.slice Ak ([] : List Int).length ck)) (fun _ hk => hk.2) (.bool true)) (fun _ hk => hk.2) (.slice Av ([0] : List Int).length cv)) (fun k hk => hk.1))
   have BK5 := zzm (zzj (p := ⟨g2, 5, none⟩) (zzj (p := ⟨g2, 4, none⟩) (zzj (p := ⟨g2, 3, none⟩) (zzj (p := ⟨g2, 2, none⟩) (zzj (p := ⟨g2, 1, none⟩) (zzj (p := ⟨g2, 0, none⟩) (BK4.out) NE.out (.int .i64 a2)) NE.out (.int .i64 a3)) NE.out (.bool false)) NE.out (.slice Ak ([] : List Int).length ck)) NE.out (.bool true)) NE.out (.slice Av ([0] : List Int).length cv))
   have BX5 := zzm (zzi (cs := #[.int .i64 a2, .int .i64 a3, .bool false, .slice Ak ([] : List Int).length ck, .bool true, .slice none 0 0]) (cs' := #[.int .i64 a2, .int .i64 a3, .bool false, .slice Ak ([] : List Int).length ck, .bool true, .slice Av ([0] : List Int).length cv]) (zzi (cs := #[.int .i64 a2, .int .i64 a3, .bool false, .slice Ak ([] : List Int).length ck, .bool false, .slice none 0 0]) (cs' := #[.int .i64 a2, .int .i64 a3, .bool false, .slice Ak ([] : List Int).length ck, .bool true, .slice none 0 0]) (zzi (cs := #[.int .i64 a2, .int .i64 a3, .bool false, .slice none 0 0, .bool false, .slice none 0 0]) (cs' := #[.int .i64 a2, .int .i64 a3, .bool false, .slice Ak ([] : List Int).length ck, .bool false, .slice none 0 0]) (zzi (cs := #[.int .i64 a2, .int .i64 a3, .bool false, .slice none 0 0, .bool false, .slice none 0 0]) (cs' := #[.int .i64 a2, .int .i64 a3, .bool false, .slice none 0 0, .bool false, .slice none 0 0]) (zzi (cs := #[.int .i64 a2, .int .i64 0, .bool false, .slice none 0 0, .bool false, .slice none 0 0]) (cs' := #[.int .i64 a2, .int .i64 a3, .bool false, .slice none 0 0, .bool false, .slice none 0 0]) (zzi (cs := #[.int .i64 0, .int .i64 0, .bool false, .slice none 0 0, .bool false, .slice none 0 0]) (cs' := #[.int .i64 a2, .int .i64 0, .bool false, .slice none 0 0, .bool false, .slice none 0 0]) (BX.out) 0 (.int .i64 a2) rfl) 1 (.int .i64 a3) rfl) 2 (.bool false) rfl) 3 (.slice Ak ([] : List Int).length ck) rfl) 4 (.bool true) rfl) 5 (.slice Av ([0] : List Int).length cv) rfl)
   have HB5 := zzm (zzd (zzd (zzd (zzd (zzd (zzd (HB4.out) GE2.out (j := 0) (v := .int .i64 a2)) GE2.out (j := 1) (v := .int .i64 a3)) GE2.out (j := 2) (v := .bool false)) GE2.out (j := 3) (v := .slice Ak ([] : List Int).length ck)) GE2.out (j := 4) (v := .bool true)) GE2.out (j := 5) (v := .slice Av ([0] : List Int).length cv))
   clear hz0 hz1 hz2 hz3 hz4 hz5 hf0 hf1 hf2 hf3 hf4 hf5 HB1 HB2 HB3 HB4 BK1 BK2 BK3 BK4 HK2 HK3 HK4 HV3 HV4 BX
   generalize (((((w4.setCell ⟨g2, 0, none⟩ (.int .i64 a2)).setCell ⟨g2, 1, none⟩ (.int .i64 a3)).setCell ⟨g2, 2, none⟩ (.bool false)).setCell ⟨g2, 3, none⟩ (.slice Ak ([] : List Int).length ck)).setCell ⟨g2, 4, none⟩ (.bool true)).setCell ⟨g2, 5, none⟩ (.slice Av ([0] : List Int).length cv) = w5 at HK5 HV5 BK5 BX5 HB5 ⊢
   have d0 : w5.cell? ⟨g2, 0, none⟩ = some (.int .i64 a2) := (zzk BX5.out 0).trans rfl
   have d1 : w5.cell? ⟨g2, 1, none⟩ = some (.int .i64 a3) := (zzk BX5.out 1).trans rfl
   have d2 : w5.cell? ⟨g2, 2, none⟩ = some (.bool false) := (zzk BX5.out 2).trans rfl
   have d3 : w5.cell? ⟨g2, 3, none⟩ = some (.slice Ak ([] : List Int).length ck) := (zzk BX5.out 3).trans rfl
   have d4 : w5.cell? ⟨g2, 4, none⟩ = some (.bool true) := (zzk BX5.out 4).trans rfl
   have d5 : w5.cell? ⟨g2, 5, none⟩ = some (.slice Av ([0] : List Int).length cv) := (zzk BX5.out 5).trans rfl
   go_upto_region 6 with (first | ((with_reducible refine gate_dst (N := 25) rfl ?_); refine Kd.N_lit k34 _ 34 ?hg (N' := 25) ?hd (xs := ([(⟨a2, a3, false, [], true, [0]⟩ : S34)] : List (S34))) (inner := [.int .i64 a2, .int .i64 a3, .bool false, .slice Ak ([] : List Int).length ck, .bool true, .slice Av ([0] : List Int).length cv]) (ok := (fun k => w.heap.size ≤ k ∧ k ≠ g1)) (okp := (fun k => w.heap.size ≤ k ∧ k ≠ g1)) ?hr ?hp (fun _ hk => hk) ((show ∀ k, w5.heap.size ≤ k → (fun k => w.heap.size ≤ k ∧ k ≠ g1) k from fun k hk => ⟨Nat.le_trans HB5.out.size hk, fun e => by have := blk_lt BK5.out; omega⟩) _ (Nat.le_refl _)) (Below.refl _ _) (Nat.le_refl _) (by simp) ?_; (case hd => rfl); (case hg => rfl); (case hr => first | (go_simp; done) | (go_simp; rfl)); (case hp => exact (Reps.c6 (show Kd.FK k34 _ _ (⟨a2, a3, false, [], true, [0]⟩ : S34) [.int .i64 a2, .int .i64 a3, .bool false, .slice Ak ([] : List Int).length ck, .bool true, .slice Av ([0] : List Int).length cv] from (k34_mkF _ _ (⟨a2, a3, false, [], true, [0]⟩ : S34) (Kd.R_reads' HK5.out).2.1 (Kd.R_F HK5.out) (Kd.R_reads' HV5.out).2.1 (Kd.R_F HV5.out))) (Reps.none _ _))); intro v25 w6 ho hb hg_ hnew_; have HN6 := zzm (Kd.N_lower ho HB5.out.size); have HB6 := zzm (zzp HB5.out hb); have BK6 := zzm (zzh BK5.out hb); clear hg_ hnew_ ho hb; obtain ⟨An, cn, e_⟩ := Kd.N_slice HN6.out; subst e_) | ((with_reducible refine gate_dst (N := 14) rfl ?_); refine box_event ?hg (N := 14) ?hd (cs := #[.bool false, .bool false, .int .i64 0, .int .i64 0, .int .i64 0, .slice none 0 0]) (t := 27) ?hr ?_; (case hd => rfl); (case hg => rfl); (case hr => first | (go_simp; done) | (go_simp; rfl)); intro g3 hg w7 hbox hb; have HB7 := zzm (zzp HB6.out hb); have BK7 := zzm (zzh BK6.out hb); have HN7 := zzm (Kd.N_below (Kd.N_elderB HN6.out g3 (Nat.le_of_eq hg.symm)) hb); have BY := zzm hbox; have GE3 := zzm (show w.heap.size ≤ g3 by rw [hg]; exact HB6.out.size); have NE3 := zzm (show g1 ≠ g3 by rw [hg]; exact Nat.ne_of_lt (blk_lt BK6.out)); clear hb hbox hg d0 d1 d2 d3 d4 d5; have hz0 : w7.cell? ⟨_, 0, none⟩ = some _ := (zzk BY.out 0).trans rfl; have hf0 := zzl BY.out 0; have hz1 : w7.cell? ⟨_, 1, none⟩ = some _ := (zzk BY.out 1).trans rfl; have hf1 := zzl BY.out 1; have hz2 : w7.cell? ⟨_, 2, none⟩ = some _ := (zzk BY.out 2).trans rfl; have hf2 := zzl BY.out 2; have hz3 : w7.cell? ⟨_, 3, none⟩ = some _ := (zzk BY.out 3).trans rfl; have hf3 := zzl BY.out 3; have hz4 : w7.cell? ⟨_, 4, none⟩ = some _ := (zzk BY.out 4).trans rfl; have hf4 := zzl BY.out 4; have hz5 : w7.cell? ⟨_, 5, none⟩ = some _ := (zzk BY.out 5).trans rfl; have hf5 := zzl BY.out 5))
   have HN8 := zzm (Kd.N_far (p := ⟨g3, 5, none⟩) (Kd.N_far (p := ⟨g3, 4, none⟩) (Kd.N_far (p := ⟨g3, 3, none⟩) (Kd.N_far (p := ⟨g3, 2, none⟩) (Kd.N_far (p := ⟨g3, 1, none⟩) (Kd.N_far (p := ⟨g3, 0, none⟩) (HN7.out) (fun _ hk => hk.2) (.bool false)) (fun _ hk => hk.2) (.bool true)) (fun _ hk => hk.2) (.int .i64 a0)) (fun _ hk => hk.2) (.int .i64 a1)) (fun _ hk => hk.2) (.int .i64 0)) (fun _ hk => hk.2) (.slice An ([(⟨a2, a3, false, [], true, [0]⟩ : S34)] : List S34).length cn))
   have BK8 := zzm (zzj (p := ⟨g3, 5, none⟩) (zzj (p := ⟨g3, 4, none⟩) (zzj (p := ⟨g3, 3, none⟩) (zzj (p := ⟨g3, 2, none⟩) (zzj (p := ⟨g3, 1, none⟩) (zzj (p := ⟨g3, 0, none⟩) (BK7.out) NE3.out (.bool false)) NE3.out (.bool true)) NE3.out (.int .i64 a0)) NE3.out (.int .i64 a1)) NE3.out (.int .i64 0)) NE3.out (.slice An ([(⟨a2, a3, false, [], true, [0]⟩ : S34)] : List S34).length cn))
   have BY8 := zzm (zzi (cs := #[.bool false, .bool true, .int .i64 a0, .int .i64 a1, .int .i64 0, .slice none 0 0]) (cs' := #[.bool false, .bool true, .int .i64 a0, .int .i64 a1, .int .i64 0, .slice An ([(⟨a2, a3, false, [], true, [0]⟩ : S34)] : List S34).length cn]) (zzi (cs := #[.bool false, .bool true, .int .i64 a0, .int .i64 a1, .int .i64 0, .slice none 0 0]) (cs' := #[.bool false, .bool true, .int .i64 a0, .int .i64 a1, .int .i64 0, .slice none 0 0]) (zzi (cs := #[.bool false, .bool true, .int .i64 a0, .int .i64 0, .int .i64 0, .slice none 0 0]) (cs' := #[.bool false, .bool true, .int .i64 a0, .int .i64 a1, .int .i64 0, .slice none 0 0]) (zzi (cs := #[.bool false, .bool true, .int .i64 0, .int .i64 0, .int .i64 0, .slice none 0 0]) (cs' := #[.bool false, .bool true, .int .i64 a0, .int .i64 0, .int .i64 0, .slice none 0 0]) (zzi (cs := #[.bool false, .bool false, .int .i64 0, .int .i64 0, .int .i64 0, .slice none 0 0]) (cs' := #[.bool false, .bool true, .int .i64 0, .int .i64 0, .int .i64 0, .slice none 0 0]) (zzi (cs := #[.bool false, .bool false, .int .i64 0, .int .i64 0, .int .i64 0, .slice none 0 0]) (cs' := #[.bool false, .bool false, .int .i64 0, .int .i64 0, .int .i64 0, .slice none 0 0]) (BY.out) 0 (.bool false) rfl) 1 (.bool true) rfl) 2 (.int .i64 a0) rfl) 3 (.int .i64 a1) rfl) 4 (.int .i64 0) rfl) 5 (.slice An ([(⟨a2, a3, false, [], true, [0]⟩ : S34)] : List S34).length cn) rfl)
   have HB8 := zzm (zzd (zzd (zzd (zzd (zzd (zzd (HB7.out) GE3.out (j := 0) (v := .bool false)) GE3.out (j := 1) (v := .bool true)) GE3.out (j := 2) (v := .int .i64 a0)) GE3.out (j := 3) (v := .int .i64 a1)) GE3.out (j := 4) (v := .int .i64 0)) GE3.out (j := 5) (v := .slice An ([(⟨a2, a3, false, [], true, [0]⟩ : S34)] : List S34).length cn))
   clear hz0 hz1 hz2 hz3 hz4 hz5 hf0 hf1 hf2 hf3 hf4 hf5 HB5 HB6 HB7 BK5 BK6 BK7 HN6 HN7 HK5 HV5 BX5 BY
   generalize (((((w7.setCell ⟨g3, 0, none⟩ (.bool false)).setCell ⟨g3, 1, none⟩ (.bool true)).setCell ⟨g3, 2, none⟩ (.int .i64 a0)).setCell ⟨g3, 3, none⟩ (.int .i64 a1)).setCell ⟨g3, 4, none⟩ (.int .i64 0)).setCell ⟨g3, 5, none⟩ (.slice An ([(⟨a2, a3, false, [], true, [0]⟩ : S34)] : List S34).length cn) = w8 at HN8 BK8 BY8 HB8 ⊢
   have d0 : w8.cell? ⟨g3, 0, none⟩ = some (.bool false) := (zzk BY8.out 0).trans rfl
   have d1 : w8.cell? ⟨g3, 1, none⟩ = some (.bool true) := (zzk BY8.out 1).trans rfl
   have d2 : w8.cell? ⟨g3, 2, none⟩ = some (.int .i64 a0) := (zzk BY8.out 2).trans rfl
   have d3 : w8.cell? ⟨g3, 3, none⟩ = some (.int .i64 a1) := (zzk BY8.out 3).trans rfl
   have d4 : w8.cell? ⟨g3, 4, none⟩ = some (.int .i64 0) := (zzk BY8.out 4).trans rfl
   have d5 : w8.cell? ⟨g3, 5, none⟩ = some (.slice An ([(⟨a2, a3, false, [], true, [0]⟩ : S34)] : List S34).length cn) := (zzk BY8.out 5).trans rfl
   go_wp2_with (((with_reducible refine gate_callee (f := 55) rfl ?_); refine goesL_ (some 28) rfl rfl Try.func55 (by kernel_rfl) rfl #[.agg #[.bool false, .bool true, .int .i64 a0, .int .i64 a1, .int .i64 0, .slice An ([(⟨a2, a3, false, [], true, [0]⟩ : S34)] : List S34).length cn]] rfl (by (try simp only [List.map_toArray, List.map_cons, List.map_nil]); first | done | rfl) ?_; (with_reducible refine (spec_BatchValid.calls k false true a0 a1 0 _ _ ([(⟨a2, a3, false, [], true, [0]⟩ : S34)] : List S34) false _ ?s1 ?s2 A7.out).mono ?_); (case s1 => exact (Kd.N_reads' HN8.out).2.2); (case s2 => exact (Kd.N_reads' HN8.out).2.1); rintro e w9 ⟨rfl, hb⟩; refine ⟨_, rfl, ?_⟩; have HN9 := zzm (Kd.N_below HN8.out hb); have BK9 := zzm (zzh BK8.out hb); have BY9 := zzm (zzh BY8.out hb); have HB9 := zzm (zzp HB8.out hb); clear hb d0 d1 d2 d3 d4 d5; have hz0 : w9.cell? ⟨_, 0, none⟩ = some _ := (zzk BK9.out 0).trans rfl; have hf0 := zzl BK9.out 0; have hz1 : w9.cell? ⟨_, 1, none⟩ = some _ := (zzk BK9.out 1).trans rfl; have hf1 := zzl BK9.out 1; have hz2 : w9.cell? ⟨_, 2, none⟩ = some _ := (zzk BK9.out 2).trans rfl; have hf2 := zzl BK9.out 2; have hz3 : w9.cell? ⟨_, 3, none⟩ = some _ := (zzk BK9.out 3).trans rfl; have hf3 := zzl BK9.out 3; have hz4 : w9.cell? ⟨_, 4, none⟩ = some _ := (zzk BK9.out 4).trans rfl; have hf4 := zzl BK9.out 4; have hz5 : w9.cell? ⟨_, 5, none⟩ = some _ := (zzk BK9.out 5).trans rfl; have hf5 := zzl BK9.out 5; have d0 : w9.cell? ⟨g3, 0, none⟩ = some (.bool false) := (zzk BY9.out 0).trans rfl; have d1 : w9.cell? ⟨g3, 1, none⟩ = some (.bool true) := (zzk BY9.out 1).trans rfl; have d2 : w9.cell? ⟨g3, 2, none⟩ = some (.int .i64 a0) := (zzk BY9.out 2).trans rfl; have d3 : w9.cell? ⟨g3, 3, none⟩ = some (.int .i64 a1) := (zzk BY9.out 3).trans rfl; have d4 : w9.cell? ⟨g3, 4, none⟩ = some (.int .i64 0) := (zzk BY9.out 4).trans rfl; have d5 : w9.cell? ⟨g3, 5, none⟩ = some (.slice An ([(⟨a2, a3, false, [], true, [0]⟩ : S34)] : List S34).length cn) := (zzk BY9.out 5).trans rfl))
   refine bodyPost_ret (results_ct rfl _ _ g1 27 #[.bool false, .bool false, .int .i64 0, .int .i64 0, .int .i64 0, .slice none 0 0] (0, 0) _ rfl (zzi (cs := #[.bool false, .bool false, .int .i64 0, .int .i64 0, .int .i64 0, .slice none 0 0]) (cs' := #[.bool false, .bool false, .int .i64 0, .int .i64 0, .int .i64 0, .slice none 0 0]) (zzi (cs := #[.bool false, .bool false, .int .i64 0, .int .i64 0, .int .i64 0, .slice none 0 0]) (cs' := #[.bool false, .bool false, .int .i64 0, .int .i64 0, .int .i64 0, .slice none 0 0]) (zzi (cs := #[.bool false, .bool false, .int .i64 0, .int .i64 0, .int .i64 0, .slice none 0 0]) (cs' := #[.bool false, .bool false, .int .i64 0, .int .i64 0, .int .i64 0, .slice none 0 0]) (zzi (cs := #[.bool false, .bool false, .int .i64 0, .int .i64 0, .int .i64 0, .slice none 0 0]) (cs' := #[.bool false, .bool false, .int .i64 0, .int .i64 0, .int .i64 0, .slice none 0 0]) (zzi (cs := #[.bool false, .bool false, .int .i64 0, .int .i64 0, .int .i64 0, .slice none 0 0]) (cs' := #[.bool false, .bool false, .int .i64 0, .int .i64 0, .int .i64 0, .slice none 0 0]) (zzi (cs := #[.bool false, .bool false, .int .i64 0, .int .i64 0, .int .i64 0, .slice none 0 0]) (cs' := #[.bool false, .bool false, .int .i64 0, .int .i64 0, .int .i64 0, .slice none 0 0]) (BK9.out) 0 (.bool false) rfl) 1 (.bool false) rfl) 2 (.int .i64 0) rfl) 3 (.int .i64 0) rfl) 4 (.int .i64 0) rfl) 5 (.slice none 0 0) rfl) Try.underlying27 rfl (by kernel_rfl)) rfl ?_
   exact ⟨_, rfl, Kd.N_nil _ _ _ _ _, zzd (zzd (zzd (zzd (zzd (zzd (HB9.out) GE1.out (j := 0) (v := .bool false)) GE1.out (j := 1) (v := .bool false)) GE1.out (j := 2) (v := .int .i64 0)) GE1.out (j := 3) (v := .int .i64 0)) GE1.out (j := 4) (v := .int .i64 0)) GE1.out (j := 5) (v := .slice none 0 0)⟩
end Go.Proofs.Yticpnjhkdfdkkaa.T
namespace Go.Proofs.Yticpnjhkdfdkkaa.T
open Go.RowKit Go.Proofs.YticpnjhkdfdkkaaW.PrintWords Go.Proofs.YticpnjhkdfdkkaaW.PrintLast Go.Proofs.YticpnjhkdfdkkaaW.PrintMore

set_option linter.unusedVariables false
set_option linter.unusedSimpArgs false
def laws_sameInts.l0 : Nat → List Int → List Int → Int → Option (Bool)
 | 0, _, _, _ => none
 | k + 1, x0, x1, x5 => if x5 < (x0.length : Int) then (if 0 ≤ x5 then (if x5 < (x1.length : Int) then (if (rd x0 x5) = (rd x1 x5) then (laws_sameInts.l0 k x0 x1 (wrap64 (x5 + 1))) else (some false)) else (none)) else (none)) else (some true)
def laws_sameInts.f (k : Nat) (l0 : List Int) (l1 : List Int) : Option (Bool) := if (l0.length : Int) = (l1.length : Int) then (laws_sameInts.l0 k l0 l1 0) else (some false)
set_option maxHeartbeats 8000000 in
set_option maxRecDepth 100000 in
theorem laws_sameInts.calls (k : Nat) (A0 : Option Addr) (c0 : Nat) (l0 : List Int) (A1 : Option Addr) (c1 : Nat) (l1 : List Int) (r : Bool) (w : World) (hr0 : Kd.C (Kd.int .i64) w A0 l0.length l0) (hc0 : l0.length ≤ c0) (hr1 : Kd.C (Kd.int .i64) w A1 l1.length l1) (hc1 : l1.length ≤ c1) (h : laws_sameInts.f k l0 l1 = some r) :
  Calls Try.prog 59 #[.slice A0 l0.length c0, .slice A1 l1.length c1] w fun e w' => e = .returned (.bool r) ∧ Drawn0 w w' := by
 have HR0 := zzm hr0
 have HC0 := zzm hc0
 clear hr0 hc0
 have HR1 := zzm hr1
 have HC1 := zzm hc1
 clear hr1 hc1
 have H : (if (l0.length : Int) = (l1.length : Int) then (laws_sameInts.l0 k l0 l1 0) else (some false)) = some r := h
 clear h
 by_cases c3 : (l0.length : Int) = (l1.length : Int)
 ·
  rw [if_pos c3] at H
  have c3b0 : ((l0.length : Int) == (l1.length : Int)) = true := beq_iff_eq.mpr c3
  have c3b1 : ((l0.length : Int) != (l1.length : Int)) = false := bne_eq_false_iff_eq.mpr c3
  have c3b2 : (l0.length == l1.length) = true := by first | simpa using c3 | (simp at c3 ⊢; omega)
  clear c3
  have H' := zzm H
  clear H
  go_enter Try.func59, Try.ntmps59
  go_wp2
  repeat (go_quiet (fail); try go_wp2)
  go_loopg [5] k (fun kq v5 w' => ∃ (x5_1 : Int), v5 = .int .i64 x5_1 ∧ Aside0 (laws_sameInts.l0 kq l0 l1 x5_1 = some r) ∧ Aside0 (kq ≤ k) ∧ Drawn0 w w')
  case atStart => exact ⟨(0), (by first | rfl | (simp; done) | (simp [*]; done)), H', ⟨Nat.le_refl _⟩, by repeat (first | exact Drawn0.refl _ | apply Drawn0.step)⟩
  case round =>
   clear H'
   try clear c1
   try clear p2
   try clear c3
   try clear c3b0
   try clear c3b1
   try clear c3b2
   obtain ⟨x5_1, rfl, HA, HK1, ⟨m1, rfl⟩⟩ := hrel
   cases gk with
   | zero => exact absurd HA.out (by simp [laws_sameInts.l0])
   | succ k1 =>
    have H := HA.out
    clear HA
    simp only [laws_sameInts.l0] at H
    by_cases c4 : x5_1 < (l0.length : Int)
    ·
     rw [if_pos c4] at H
     have c4b0 : decide (x5_1 < (l0.length : Int)) = true := decide_eq_true c4
     clear c4
     by_cases c5 : 0 ≤ x5_1
     ·
      rw [if_pos c5] at H
      have c5b0 : decide (0 ≤ x5_1) = true := decide_eq_true c5
      clear c5
      by_cases c6 : x5_1 < (l1.length : Int)
      ·
       rw [if_pos c6] at H
       have c6b0 : decide (x5_1 < (l1.length : Int)) = true := decide_eq_true c6
       clear c6
       by_cases c7 : (rd l0 x5_1) = (rd l1 x5_1)
       ·
        rw [if_pos c7] at H
        have c7b0 : ((rd l0 x5_1) == (rd l1 x5_1)) = true := beq_iff_eq.mpr c7
        have c7b1 : ((rd l0 x5_1) != (rd l1 x5_1)) = false := bne_eq_false_iff_eq.mpr c7
        clear c7
        have H' := zzm H
        clear H
        have p191 : 0 ≤ (x5_1 : Int) := of_decide_eq_true (by first | (with_reducible assumption) | assumption)
        have q191 : x5_1 < (l0.length : Int) := of_decide_eq_true (by first | (with_reducible assumption) | assumption)
        obtain ⟨ad191, e191, hx191_0⟩ := Kd.at_int HR0.out x5_1 p191 q191
        cases e191
        replace p191 := eq_true p191
        replace q191 := eq_true q191
        have p192 : 0 ≤ (x5_1 : Int) := of_decide_eq_true (by first | (with_reducible assumption) | assumption)
        have q192 : x5_1 < (l1.length : Int) := of_decide_eq_true (by first | (with_reducible assumption) | assumption)
        obtain ⟨ad192, e192, hx192_0⟩ := Kd.at_int HR1.out x5_1 p192 q192
        cases e192
        replace p192 := eq_true p192
        replace q192 := eq_true q192
        go_wp2
        repeat (go_quiet (fail); try go_wp2)
        go_roundg k1
        case measure => have := HK1.out; omega
        case rel => exact ⟨(wrap64 (x5_1 + 1)), (by first | rfl | (simp; done) | (simp [*]; done)), H', ⟨by have := HK1.out; omega⟩, by repeat (first | exact Drawn0.refl _ | apply Drawn0.step)⟩
       ·
        rw [if_neg c7] at H
        have c7b0 : ((rd l0 x5_1) == (rd l1 x5_1)) = false := beq_eq_false_iff_ne.mpr c7
        have c7b1 : ((rd l0 x5_1) != (rd l1 x5_1)) = true := bne_iff_ne.mpr c7
        obtain rfl := Option.some.inj H
        have p191 : 0 ≤ (x5_1 : Int) := of_decide_eq_true (by first | (with_reducible assumption) | assumption)
        have q191 : x5_1 < (l0.length : Int) := of_decide_eq_true (by first | (with_reducible assumption) | assumption)
        obtain ⟨ad191, e191, hx191_0⟩ := Kd.at_int HR0.out x5_1 p191 q191
        cases e191
        replace p191 := eq_true p191
        replace q191 := eq_true q191
        have p192 : 0 ≤ (x5_1 : Int) := of_decide_eq_true (by first | (with_reducible assumption) | assumption)
        have q192 : x5_1 < (l1.length : Int) := of_decide_eq_true (by first | (with_reducible assumption) | assumption)
        obtain ⟨ad192, e192, hx192_0⟩ := Kd.at_int HR1.out x5_1 p192 q192
        cases e192
        replace p192 := eq_true p192
        replace q192 := eq_true q192
        go_wp2
        repeat (go_quiet (fail); try go_wp2)
        go_ret
        exact ⟨by first | rfl | (simp; done) | (simp [*]; done), by repeat (first | exact Drawn0.refl _ | apply Drawn0.step)⟩
      ·
       rw [if_neg c6] at H
       exact absurd H (by simp)
     ·
      rw [if_neg c5] at H
      exact absurd H (by simp)
    ·
     rw [if_neg c4] at H
     have c4b0 : decide (x5_1 < (l0.length : Int)) = false := decide_eq_false c4
     clear c4
     obtain rfl := Option.some.inj H
     go_wp2
     repeat (go_quiet (fail); try go_wp2)
     go_ret
     exact ⟨by first | rfl | (simp; done) | (simp [*]; done), by repeat (first | exact Drawn0.refl _ | apply Drawn0.step)⟩
 ·
  rw [if_neg c3] at H
  have c3b0 : ((l0.length : Int) == (l1.length : Int)) = false := beq_eq_false_iff_ne.mpr c3
  have c3b1 : ((l0.length : Int) != (l1.length : Int)) = true := bne_iff_ne.mpr c3
  have c3b2 : (l0.length == l1.length) = false := by first | simpa using c3 | (simp at c3 ⊢; omega)
  obtain rfl := Option.some.inj H
  go_enter Try.func59, Try.ntmps59
  go_wp2
  repeat (go_quiet (fail); try go_wp2)
  go_ret
  exact ⟨by first | rfl | (simp; done) | (simp [*]; done), by repeat (first | exact Drawn0.refl _ | apply Drawn0.step)⟩
end Go.Proofs.Yticpnjhkdfdkkaa.T
namespace Go.Proofs.Yticpnjhkdfdkkaa.T
open Go.RowKit Go.Proofs.YticpnjhkdfdkkaaW.PrintWords Go.Proofs.YticpnjhkdfdkkaaW.PrintLast Go.Proofs.YticpnjhkdfdkkaaW.PrintMore

set_option linter.unusedVariables false
set_option linter.unusedSimpArgs false
def laws_sameRecord.f (k : Nat) (a0_0 : Int) (a0_1 : Int) (a0_2 : Bool) (l0_3 : List Int) (a0_4 : Bool) (l0_5 : List Int) (a1_0 : Int) (a1_1 : Int) (a1_2 : Bool) (l1_3 : List Int) (a1_4 : Bool) (l1_5 : List Int) : Option (Bool) := if a0_0 = a1_0 then (if a0_1 = a1_1 then (if (a0_2 == a1_2) = true then (if (a0_4 == a1_4) = true then ((laws_sameInts.f k l0_3 l1_3).bind fun t195 => (if t195 = true then ((laws_sameInts.f k l0_5 l1_5).bind fun t196 => (some t196)) else (some false))) else (some false)) else (some false)) else (some false)) else (some false)
set_option maxHeartbeats 8000000 in
set_option maxRecDepth 100000 in
theorem laws_sameRecord.calls (k : Nat) (a0_0 : Int) (a0_1 : Int) (a0_2 : Bool) (A0_3 : Option Addr) (c0_3 : Nat) (l0_3 : List Int) (a0_4 : Bool) (A0_5 : Option Addr) (c0_5 : Nat) (l0_5 : List Int) (a1_0 : Int) (a1_1 : Int) (a1_2 : Bool) (A1_3 : Option Addr) (c1_3 : Nat) (l1_3 : List Int) (a1_4 : Bool) (A1_5 : Option Addr) (c1_5 : Nat) (l1_5 : List Int) (r : Bool) (w : World) (hr0_3 : Kd.C (Kd.int .i64) w A0_3 l0_3.length l0_3) (hc0_3 : l0_3.length ≤ c0_3) (hr0_5 : Kd.C (Kd.int .i64) w A0_5 l0_5.length l0_5) (hc0_5 : l0_5.length ≤ c0_5) (hr1_3 : Kd.C (Kd.int .i64) w A1_3 l1_3.length l1_3) (hc1_3 : l1_3.length ≤ c1_3) (hr1_5 : Kd.C (Kd.int .i64) w A1_5 l1_5.length l1_5) (hc1_5 : l1_5.length ≤ c1_5) (h : laws_sameRecord.f k a0_0 a0_1 a0_2 l0_3 a0_4 l0_5 a1_0 a1_1 a1_2 l1_3 a1_4 l1_5 = some r) :
  Calls Try.prog 23 #[.agg #[.int .i64 a0_0, .int .i64 a0_1, .bool a0_2, .slice A0_3 l0_3.length c0_3, .bool a0_4, .slice A0_5 l0_5.length c0_5], .agg #[.int .i64 a1_0, .int .i64 a1_1, .bool a1_2, .slice A1_3 l1_3.length c1_3, .bool a1_4, .slice A1_5 l1_5.length c1_5]] w fun e w' => e = .returned (.bool r) ∧ Below w.heap.size w w' := by
 have hu34 := Try.underlying34
 have HR0_3 := zzm hr0_3
 have HC0_3 := zzm hc0_3
 clear hr0_3 hc0_3
 have HR0_5 := zzm hr0_5
 have HC0_5 := zzm hc0_5
 clear hr0_5 hc0_5
 have HR1_3 := zzm hr1_3
 have HC1_3 := zzm hc1_3
 clear hr1_3 hc1_3
 have HR1_5 := zzm hr1_5
 have HC1_5 := zzm hc1_5
 clear hr1_5 hc1_5
 have HB := zzm (Below.refl w.heap.size w)
 have H : (if a0_0 = a1_0 then (if a0_1 = a1_1 then (if (a0_2 == a1_2) = true then (if (a0_4 == a1_4) = true then ((laws_sameInts.f k l0_3 l1_3).bind fun t195 => (if t195 = true then ((laws_sameInts.f k l0_5 l1_5).bind fun t196 => (some t196)) else (some false))) else (some false)) else (some false)) else (some false)) else (some false)) = some r := h
 clear h
 by_cases c3 : a0_0 = a1_0
 ·
  rw [if_pos c3] at H
  have c3b0 : (a0_0 == a1_0) = true := beq_iff_eq.mpr c3
  have c3b1 : (a0_0 != a1_0) = false := bne_eq_false_iff_eq.mpr c3
  clear c3
  by_cases c4 : a0_1 = a1_1
  ·
   rw [if_pos c4] at H
   have c4b0 : (a0_1 == a1_1) = true := beq_iff_eq.mpr c4
   have c4b1 : (a0_1 != a1_1) = false := bne_eq_false_iff_eq.mpr c4
   clear c4
   by_cases c5 : (a0_2 == a1_2) = true
   ·
    rw [if_pos c5] at H
    have c5b0 : (a0_2 == a1_2) = true := c5
    (try (have c5b1 : decide (a0_2 = a1_2) = true := by simpa using c5))
    (try (have c5b2 : (a0_2 == a1_2) = true := by simpa using c5))
    clear c5
    by_cases c6 : (a0_4 == a1_4) = true
    ·
     rw [if_pos c6] at H
     have c6b0 : (a0_4 == a1_4) = true := c6
     (try (have c6b1 : decide (a0_4 = a1_4) = true := by simpa using c6))
     (try (have c6b2 : (a0_4 == a1_4) = true := by simpa using c6))
     clear c6
     replace H := Option.bind_eq_some_iff.mp H
     obtain ⟨t195, A70, H⟩ := H
     replace H : (if t195 = true then ((laws_sameInts.f k l0_5 l1_5).bind fun t196 => (some t196)) else (some false)) = some r := H
     have A7 := zzm A70
     clear A70
     by_cases c8 : t195 = true
     ·
      subst c8
      have H1 : ((laws_sameInts.f k l0_5 l1_5).bind fun t196 => (some t196)) = some r := by rw [if_pos rfl] at H; exact H
      clear H
      have H := H1
      clear H1
      replace H := Option.bind_eq_some_iff.mp H
      obtain ⟨t196, A90, H⟩ := H
      replace H : (some t196) = some r := H
      have A9 := zzm A90
      clear A90
      obtain rfl := Option.some.inj H
      go_enter Try.func23, Try.ntmps23
      go_wp2_with (first | ((with_reducible refine gate_dst (N := 2) rfl ?_); refine box_event ?hg (N := 2) ?hd (cs := #[.int .i64 a0_0, .int .i64 a0_1, .bool a0_2, .slice A0_3 l0_3.length c0_3, .bool a0_4, .slice A0_5 l0_5.length c0_5]) (t := 34) ?hr ?_; (case hd => rfl); (case hg => rfl); (case hr => first | (go_simp; done) | (go_simp; rfl)); intro gb193 hg w10 hbox hb; have n0_ := zzm (zzp (by repeat (first | (with_reducible first | exact HB.out | apply zza | apply zzb | apply zzc) | exact HB.out)) hb); have n1_ := zzm (hbox); have n2_ := zzm ((by rw [hg]; exact (zzo (by repeat (first | (with_reducible first | exact HB.out | apply zza | apply zzb | apply zzc) | exact HB.out))) : w.heap.size ≤ gb193)); have n3_ := zzm ((by rw [hg]; exact (zzo (by repeat (first | (with_reducible first | exact HB.out | apply zza | apply zzb | apply zzc) | exact HB.out))) : w.heap.size ≤ gb193)); clear HB; have HB := n0_; have BK193 := n1_; have GW193 := n2_; have GE193 := n3_; clear n0_ n1_ n2_ n3_ hb hbox hg) | ((with_reducible refine gate_dst (N := 3) rfl ?_); refine box_event ?hg (N := 3) ?hd (cs := #[.int .i64 a1_0, .int .i64 a1_1, .bool a1_2, .slice A1_3 l1_3.length c1_3, .bool a1_4, .slice A1_5 l1_5.length c1_5]) (t := 34) ?hr ?_; (case hd => rfl); (case hg => rfl); (case hr => first | (go_simp; done) | (go_simp; rfl)); intro gb194 hg w11 hbox hb; have n0_ := zzm (zzh (g := gb193) (o := .cells #[.int .i64 a0_0, .int .i64 a0_1, .bool a0_2, .slice A0_3 l0_3.length c0_3, .bool a0_4, .slice A0_5 l0_5.length c0_5] 34 (0, 0)) (by (with_reducible repeat (first | refine zzf ?_ _ | refine zzg ?_ | refine zze ?_ _)); exact BK193.out) hb); have n1_ := zzm (zzp (by repeat (first | (with_reducible first | exact HB.out | apply zza | apply zzb | apply zzc | refine zzd ?_ GE193.out) | exact HB.out)) hb); have n2_ := zzm (hbox); have n3_ := zzm ((by rw [hg]; exact (zzo (by repeat (first | (with_reducible first | exact HB.out | apply zza | apply zzb | apply zzc | refine zzd ?_ GE193.out) | exact HB.out))) : w.heap.size ≤ gb194)); have n4_ := zzm ((by rw [hg]; exact (zzo (by repeat (first | (with_reducible first | exact HB.out | apply zza | apply zzb | apply zzc | refine zzd ?_ GE193.out) | exact HB.out))) : w.heap.size ≤ gb194)); have n5_ := zzm ((by rw [hg]; exact Nat.ne_of_lt (blk_lt (g := gb193) (o := .cells #[.int .i64 a0_0, .int .i64 a0_1, .bool a0_2, .slice A0_3 l0_3.length c0_3, .bool a0_4, .slice A0_5 l0_5.length c0_5] 34 (0, 0)) (by (with_reducible repeat (first | refine zzf ?_ _ | refine zzg ?_ | refine zze ?_ _)); exact BK193.out)) : gb193 ≠ gb194)); have n6_ := zzm ((by rw [hg]; exact Nat.ne_of_gt (blk_lt (g := gb193) (o := .cells #[.int .i64 a0_0, .int .i64 a0_1, .bool a0_2, .slice A0_3 l0_3.length c0_3, .bool a0_4, .slice A0_5 l0_5.length c0_5] 34 (0, 0)) (by (with_reducible repeat (first | refine zzf ?_ _ | refine zzg ?_ | refine zze ?_ _)); exact BK193.out)) : gb194 ≠ gb193)); clear BK193 HB; have BK193 := n0_; have HB := n1_; have BK194 := n2_; have GW194 := n3_; have GE194 := n4_; have NB193_194 := n5_; have NB194_193 := n6_; clear n0_ n1_ n2_ n3_ n4_ n5_ n6_ hb hbox hg; have hnb12 := NB193_194.out; have hnc12 := NB194_193.out; obtain ⟨hcz13_0, hcz13_1, hcz13_2, hcz13_3, hcz13_4, hcz13_5, hfz13_0, hfz13_1, hfz13_2, hfz13_3, hfz13_4, hfz13_5⟩ := zzc6 BK193.out; obtain ⟨hcz14_0, hcz14_1, hcz14_2, hcz14_3, hcz14_4, hcz14_5, hfz14_0, hfz14_1, hfz14_2, hfz14_3, hfz14_4, hfz14_5⟩ := zzc6 BK194.out) | (go_at_call 59; (with_reducible refine (laws_sameInts.calls k _ _ l0_3 _ _ l1_3 true _ ?side1 ?side2 ?side3 ?side4 A7.out).mono ?_); (case side1 => repeat (first | exact (Kd.C_below HR0_3.out HB.out) | (with_reducible refine Kd.C_alloc ?_ _) | (with_reducible refine Kd.C_drewN ?_ _) | (with_reducible refine Kd.C_drew ?_))); (case side2 => exact HC0_3.out); (case side3 => repeat (first | exact (Kd.C_below HR1_3.out HB.out) | (with_reducible refine Kd.C_alloc ?_ _) | (with_reducible refine Kd.C_drewN ?_ _) | (with_reducible refine Kd.C_drew ?_))); (case side4 => exact HC1_3.out); rintro e w' ⟨rfl, ⟨nd, rfl⟩⟩) | (go_at_call 59; (with_reducible refine (laws_sameInts.calls k _ _ l0_5 _ _ l1_5 t196 _ ?side1 ?side2 ?side3 ?side4 A9.out).mono ?_); (case side1 => repeat (first | exact (Kd.C_below HR0_5.out (by repeat (first | (with_reducible first | exact HB.out | apply zza | apply zzb | apply zzc | refine zzd ?_ GE193.out | refine zzd ?_ GE194.out) | exact HB.out))) | (with_reducible refine Kd.C_alloc ?_ _) | (with_reducible refine Kd.C_drewN ?_ _) | (with_reducible refine Kd.C_drew ?_))); (case side2 => exact HC0_5.out); (case side3 => repeat (first | exact (Kd.C_below HR1_5.out (by repeat (first | (with_reducible first | exact HB.out | apply zza | apply zzb | apply zzc | refine zzd ?_ GE193.out | refine zzd ?_ GE194.out) | exact HB.out))) | (with_reducible refine Kd.C_alloc ?_ _) | (with_reducible refine Kd.C_drewN ?_ _) | (with_reducible refine Kd.C_drew ?_))); (case side4 => exact HC1_5.out); rintro e w' ⟨rfl, ⟨nd, rfl⟩⟩))
      go_ret
      exact ⟨by first | rfl | (simp [errW_none, errW_some] <;> rfl) | (simp [*, errW_none, errW_some] <;> rfl), by repeat (first | (with_reducible first | exact HB.out | apply zza | apply zzb | apply zzc | refine zzd ?_ GE193.out | refine zzd ?_ GE194.out) | exact HB.out)⟩
     ·
      replace c8 := Bool.eq_false_iff.mpr c8
      subst c8
      have H1 : (some false) = some r := by rw [if_neg (show ¬ (false = true) by decide)] at H; exact H
      clear H
      have H := H1
      clear H1
      obtain rfl := Option.some.inj H
      go_enter Try.func23, Try.ntmps23
      go_wp2_with (first | ((with_reducible refine gate_dst (N := 2) rfl ?_); refine box_event ?hg (N := 2) ?hd (cs := #[.int .i64 a0_0, .int .i64 a0_1, .bool a0_2, .slice A0_3 l0_3.length c0_3, .bool a0_4, .slice A0_5 l0_5.length c0_5]) (t := 34) ?hr ?_; (case hd => rfl); (case hg => rfl); (case hr => first | (go_simp; done) | (go_simp; rfl)); intro gb193 hg w15 hbox hb; have n0_ := zzm (zzp (by repeat (first | (with_reducible first | exact HB.out | apply zza | apply zzb | apply zzc) | exact HB.out)) hb); have n1_ := zzm (hbox); have n2_ := zzm ((by rw [hg]; exact (zzo (by repeat (first | (with_reducible first | exact HB.out | apply zza | apply zzb | apply zzc) | exact HB.out))) : w.heap.size ≤ gb193)); have n3_ := zzm ((by rw [hg]; exact (zzo (by repeat (first | (with_reducible first | exact HB.out | apply zza | apply zzb | apply zzc) | exact HB.out))) : w.heap.size ≤ gb193)); clear HB; have HB := n0_; have BK193 := n1_; have GW193 := n2_; have GE193 := n3_; clear n0_ n1_ n2_ n3_ hb hbox hg) | ((with_reducible refine gate_dst (N := 3) rfl ?_); refine box_event ?hg (N := 3) ?hd (cs := #[.int .i64 a1_0, .int .i64 a1_1, .bool a1_2, .slice A1_3 l1_3.length c1_3, .bool a1_4, .slice A1_5 l1_5.length c1_5]) (t := 34) ?hr ?_; (case hd => rfl); (case hg => rfl); (case hr => first | (go_simp; done) | (go_simp; rfl)); intro gb194 hg w16 hbox hb; have n0_ := zzm (zzh (g := gb193) (o := .cells #[.int .i64 a0_0, .int .i64 a0_1, .bool a0_2, .slice A0_3 l0_3.length c0_3, .bool a0_4, .slice A0_5 l0_5.length c0_5] 34 (0, 0)) (by (with_reducible repeat (first | refine zzf ?_ _ | refine zzg ?_ | refine zze ?_ _)); exact BK193.out) hb); have n1_ := zzm (zzp (by repeat (first | (with_reducible first | exact HB.out | apply zza | apply zzb | apply zzc | refine zzd ?_ GE193.out) | exact HB.out)) hb); have n2_ := zzm (hbox); have n3_ := zzm ((by rw [hg]; exact (zzo (by repeat (first | (with_reducible first | exact HB.out | apply zza | apply zzb | apply zzc | refine zzd ?_ GE193.out) | exact HB.out))) : w.heap.size ≤ gb194)); have n4_ := zzm ((by rw [hg]; exact (zzo (by repeat (first | (with_reducible first | exact HB.out | apply zza | apply zzb | apply zzc | refine zzd ?_ GE193.out) | exact HB.out))) : w.heap.size ≤ gb194)); have n5_ := zzm ((by rw [hg]; exact Nat.ne_of_lt (blk_lt (g := gb193) (o := .cells #[.int .i64 a0_0, .int .i64 a0_1, .bool a0_2, .slice A0_3 l0_3.length c0_3, .bool a0_4, .slice A0_5 l0_5.length c0_5] 34 (0, 0)) (by (with_reducible repeat (first | refine zzf ?_ _ | refine zzg ?_ | refine zze ?_ _)); exact BK193.out)) : gb193 ≠ gb194)); have n6_ := zzm ((by rw [hg]; exact Nat.ne_of_gt (blk_lt (g := gb193) (o := .cells #[.int .i64 a0_0, .int .i64 a0_1, .bool a0_2, .slice A0_3 l0_3.length c0_3, .bool a0_4, .slice A0_5 l0_5.length c0_5] 34 (0, 0)) (by (with_reducible repeat (first | refine zzf ?_ _ | refine zzg ?_ | refine zze ?_ _)); exact BK193.out)) : gb194 ≠ gb193)); clear BK193 HB; have BK193 := n0_; have HB := n1_; have BK194 := n2_; have GW194 := n3_; have GE194 := n4_; have NB193_194 := n5_; have NB194_193 := n6_; clear n0_ n1_ n2_ n3_ n4_ n5_ n6_ hb hbox hg; have hnb17 := NB193_194.out; have hnc17 := NB194_193.out; obtain ⟨hcz18_0, hcz18_1, hcz18_2, hcz18_3, hcz18_4, hcz18_5, hfz18_0, hfz18_1, hfz18_2, hfz18_3, hfz18_4, hfz18_5⟩ := zzc6 BK193.out; obtain ⟨hcz19_0, hcz19_1, hcz19_2, hcz19_3, hcz19_4, hcz19_5, hfz19_0, hfz19_1, hfz19_2, hfz19_3, hfz19_4, hfz19_5⟩ := zzc6 BK194.out) | (go_at_call 59; (with_reducible refine (laws_sameInts.calls k _ _ l0_3 _ _ l1_3 false _ ?side1 ?side2 ?side3 ?side4 A7.out).mono ?_); (case side1 => repeat (first | exact (Kd.C_below HR0_3.out HB.out) | (with_reducible refine Kd.C_alloc ?_ _) | (with_reducible refine Kd.C_drewN ?_ _) | (with_reducible refine Kd.C_drew ?_))); (case side2 => exact HC0_3.out); (case side3 => repeat (first | exact (Kd.C_below HR1_3.out HB.out) | (with_reducible refine Kd.C_alloc ?_ _) | (with_reducible refine Kd.C_drewN ?_ _) | (with_reducible refine Kd.C_drew ?_))); (case side4 => exact HC1_3.out); rintro e w' ⟨rfl, ⟨nd, rfl⟩⟩))
      go_ret
      exact ⟨by first | rfl | (simp [errW_none, errW_some] <;> rfl) | (simp [*, errW_none, errW_some] <;> rfl), by repeat (first | (with_reducible first | exact HB.out | apply zza | apply zzb | apply zzc | refine zzd ?_ GE193.out | refine zzd ?_ GE194.out) | exact HB.out)⟩
    ·
     rw [if_neg c6] at H
     have c6b0 : (a0_4 == a1_4) = false := by simpa using c6
     (try (have c6b1 : decide (a0_4 = a1_4) = false := by simpa using c6))
     (try (have c6b2 : (a0_4 == a1_4) = false := by simpa using c6))
     (try (have c6b3 : ¬ (a0_4 = a1_4) := by simpa using c6))
     clear c6
     obtain rfl := Option.some.inj H
     go_enter Try.func23, Try.ntmps23
     go_wp2_with (first | ((with_reducible refine gate_dst (N := 2) rfl ?_); refine box_event ?hg (N := 2) ?hd (cs := #[.int .i64 a0_0, .int .i64 a0_1, .bool a0_2, .slice A0_3 l0_3.length c0_3, .bool a0_4, .slice A0_5 l0_5.length c0_5]) (t := 34) ?hr ?_; (case hd => rfl); (case hg => rfl); (case hr => first | (go_simp; done) | (go_simp; rfl)); intro gb193 hg w20 hbox hb; have n0_ := zzm (zzp (by repeat (first | (with_reducible first | exact HB.out | apply zza | apply zzb | apply zzc) | exact HB.out)) hb); have n1_ := zzm (hbox); have n2_ := zzm ((by rw [hg]; exact (zzo (by repeat (first | (with_reducible first | exact HB.out | apply zza | apply zzb | apply zzc) | exact HB.out))) : w.heap.size ≤ gb193)); have n3_ := zzm ((by rw [hg]; exact (zzo (by repeat (first | (with_reducible first | exact HB.out | apply zza | apply zzb | apply zzc) | exact HB.out))) : w.heap.size ≤ gb193)); clear HB; have HB := n0_; have BK193 := n1_; have GW193 := n2_; have GE193 := n3_; clear n0_ n1_ n2_ n3_ hb hbox hg) | ((with_reducible refine gate_dst (N := 3) rfl ?_); refine box_event ?hg (N := 3) ?hd (cs := #[.int .i64 a1_0, .int .i64 a1_1, .bool a1_2, .slice A1_3 l1_3.length c1_3, .bool a1_4, .slice A1_5 l1_5.length c1_5]) (t := 34) ?hr ?_; (case hd => rfl); (case hg => rfl); (case hr => first | (go_simp; done) | (go_simp; rfl)); intro gb194 hg w21 hbox hb; have n0_ := zzm (zzh (g := gb193) (o := .cells #[.int .i64 a0_0, .int .i64 a0_1, .bool a0_2, .slice A0_3 l0_3.length c0_3, .bool a0_4, .slice A0_5 l0_5.length c0_5] 34 (0, 0)) (by (with_reducible repeat (first | refine zzf ?_ _ | refine zzg ?_ | refine zze ?_ _)); exact BK193.out) hb); have n1_ := zzm (zzp (by repeat (first | (with_reducible first | exact HB.out | apply zza | apply zzb | apply zzc | refine zzd ?_ GE193.out) | exact HB.out)) hb); have n2_ := zzm (hbox); have n3_ := zzm ((by rw [hg]; exact (zzo (by repeat (first | (with_reducible first | exact HB.out | apply zza | apply zzb | apply zzc | refine zzd ?_ GE193.out) | exact HB.out))) : w.heap.size ≤ gb194)); have n4_ := zzm ((by rw [hg]; exact (zzo (by repeat (first | (with_reducible first | exact HB.out | apply zza | apply zzb | apply zzc | refine zzd ?_ GE193.out) | exact HB.out))) : w.heap.size ≤ gb194)); have n5_ := zzm ((by rw [hg]; exact Nat.ne_of_lt (blk_lt (g := gb193) (o := .cells #[.int .i64 a0_0, .int .i64 a0_1, .bool a0_2, .slice A0_3 l0_3.length c0_3, .bool a0_4, .slice A0_5 l0_5.length c0_5] 34 (0, 0)) (by (with_reducible repeat (first | refine zzf ?_ _ | refine zzg ?_ | refine zze ?_ _)); exact BK193.out)) : gb193 ≠ gb194)); have n6_ := zzm ((by rw [hg]; exact Nat.ne_of_gt (blk_lt (g := gb193) (o := .cells #[.int .i64 a0_0, .int .i64 a0_1, .bool a0_2, .slice A0_3 l0_3.length c0_3, .bool a0_4, .slice A0_5 l0_5.length c0_5] 34 (0, 0)) (by (with_reducible repeat (first | refine zzf ?_ _ | refine zzg ?_ | refine zze ?_ _)); exact BK193.out)) : gb194 ≠ gb193)); clear BK193 HB; have BK193 := n0_; have HB := n1_; have BK194 := n2_; have GW194 := n3_; have GE194 := n4_; have NB193_194 := n5_; have NB194_193 := n6_; clear n0_ n1_ n2_ n3_ n4_ n5_ n6_ hb hbox hg; have hnb22 := NB193_194.out; have hnc22 := NB194_193.out; obtain ⟨hcz23_0, hcz23_1, hcz23_2, hcz23_3, hcz23_4, hcz23_5, hfz23_0, hfz23_1, hfz23_2, hfz23_3, hfz23_4, hfz23_5⟩ := zzc6 BK193.out; obtain ⟨hcz24_0, hcz24_1, hcz24_2, hcz24_3, hcz24_4, hcz24_5, hfz24_0, hfz24_1, hfz24_2, hfz24_3, hfz24_4, hfz24_5⟩ := zzc6 BK194.out))
     go_ret
     exact ⟨by first | rfl | (simp [errW_none, errW_some] <;> rfl) | (simp [*, errW_none, errW_some] <;> rfl), by repeat (first | (with_reducible first | exact HB.out | apply zza | apply zzb | apply zzc | refine zzd ?_ GE193.out | refine zzd ?_ GE194.out) | exact HB.out)⟩
   ·
    rw [if_neg c5] at H
    have c5b0 : (a0_2 == a1_2) = false := by simpa using c5
    (try (have c5b1 : decide (a0_2 = a1_2) = false := by simpa using c5))
    (try (have c5b2 : (a0_2 == a1_2) = false := by simpa using c5))
    (try (have c5b3 : ¬ (a0_2 = a1_2) := by simpa using c5))
    clear c5
    obtain rfl := Option.some.inj H
    go_enter Try.func23, Try.ntmps23
    go_wp2_with (first | ((with_reducible refine gate_dst (N := 2) rfl ?_); refine box_event ?hg (N := 2) ?hd (cs := #[.int .i64 a0_0, .int .i64 a0_1, .bool a0_2, .slice A0_3 l0_3.length c0_3, .bool a0_4, .slice A0_5 l0_5.length c0_5]) (t := 34) ?hr ?_; (case hd => rfl); (case hg => rfl); (case hr => first | (go_simp; done) | (go_simp; rfl)); intro gb193 hg w25 hbox hb; have n0_ := zzm (zzp (by repeat (first | (with_reducible first | exact HB.out | apply zza | apply zzb | apply zzc) | exact HB.out)) hb); have n1_ := zzm (hbox); have n2_ := zzm ((by rw [hg]; exact (zzo (by repeat (first | (with_reducible first | exact HB.out | apply zza | apply zzb | apply zzc) | exact HB.out))) : w.heap.size ≤ gb193)); have n3_ := zzm ((by rw [hg]; exact (zzo (by repeat (first | (with_reducible first | exact HB.out | apply zza | apply zzb | apply zzc) | exact HB.out))) : w.heap.size ≤ gb193)); clear HB; have HB := n0_; have BK193 := n1_; have GW193 := n2_; have GE193 := n3_; clear n0_ n1_ n2_ n3_ hb hbox hg) | ((with_reducible refine gate_dst (N := 3) rfl ?_); refine box_event ?hg (N := 3) ?hd (cs := #[.int .i64 a1_0, .int .i64 a1_1, .bool a1_2, .slice A1_3 l1_3.length c1_3, .bool a1_4, .slice A1_5 l1_5.length c1_5]) (t := 34) ?hr ?_; (case hd => rfl); (case hg => rfl); (case hr => first | (go_simp; done) | (go_simp; rfl)); intro gb194 hg w26 hbox hb; have n0_ := zzm (zzh (g := gb193) (o := .cells #[.int .i64 a0_0, .int .i64 a0_1, .bool a0_2, .slice A0_3 l0_3.length c0_3, .bool a0_4, .slice A0_5 l0_5.length c0_5] 34 (0, 0)) (by (with_reducible repeat (first | refine zzf ?_ _ | refine zzg ?_ | refine zze ?_ _)); exact BK193.out) hb); have n1_ := zzm (zzp (by repeat (first | (with_reducible first | exact HB.out | apply zza | apply zzb | apply zzc | refine zzd ?_ GE193.out) | exact HB.out)) hb); have n2_ := zzm (hbox); have n3_ := zzm ((by rw [hg]; exact (zzo (by repeat (first | (with_reducible first | exact HB.out | apply zza | apply zzb | apply zzc | refine zzd ?_ GE193.out) | exact HB.out))) : w.heap.size ≤ gb194)); have n4_ := zzm ((by rw [hg]; exact (zzo (by repeat (first | (with_reducible first | exact HB.out | apply zza | apply zzb | apply zzc | refine zzd ?_ GE193.out) | exact HB.out))) : w.heap.size ≤ gb194)); have n5_ := zzm ((by rw [hg]; exact Nat.ne_of_lt (blk_lt (g := gb193) (o := .cells #[.int .i64 a0_0, .int .i64 a0_1, .bool a0_2, .slice A0_3 l0_3.length c0_3, .bool a0_4, .slice A0_5 l0_5.length c0_5] 34 (0, 0)) (by (with_reducible repeat (first | refine zzf ?_ _ | refine zzg ?_ | refine zze ?_ _)); exact BK193.out)) : gb193 ≠ gb194)); have n6_ := zzm ((by rw [hg]; exact Nat.ne_of_gt (blk_lt (g := gb193) (o := .cells #[.int .i64 a0_0, .int .i64 a0_1, .bool a0_2, .slice A0_3 l0_3.length c0_3, .bool a0_4, .slice A0_5 l0_5.length c0_5] 34 (0, 0)) (by (with_reducible repeat (first | refine zzf ?_ _ | refine zzg ?_ | refine zze ?_ _)); exact BK193.out)) : gb194 ≠ gb193)); clear BK193 HB; have BK193 := n0_; have HB := n1_; have BK194 := n2_; have GW194 := n3_; have GE194 := n4_; have NB193_194 := n5_; have NB194_193 := n6_; clear n0_ n1_ n2_ n3_ n4_ n5_ n6_ hb hbox hg; have hnb27 := NB193_194.out; have hnc27 := NB194_193.out; obtain ⟨hcz28_0, hcz28_1, hcz28_2, hcz28_3, hcz28_4, hcz28_5, hfz28_0, hfz28_1, hfz28_2, hfz28_3, hfz28_4, hfz28_5⟩ := zzc6 BK193.out; obtain ⟨hcz29_0, hcz29_1, hcz29_2, hcz29_3, hcz29_4, hcz29_5, hfz29_0, hfz29_1, hfz29_2, hfz29_3, hfz29_4, hfz29_5⟩ := zzc6 BK194.out))
    go_ret
    exact ⟨by first | rfl | (simp [errW_none, errW_some] <;> rfl) | (simp [*, errW_none, errW_some] <;> rfl), by repeat (first | (with_reducible first | exact HB.out | apply zza | apply zzb | apply zzc | refine zzd ?_ GE193.out | refine zzd ?_ GE194.out) | exact HB.out)⟩
  ·
   rw [if_neg c4] at H
   have c4b0 : (a0_1 == a1_1) = false := beq_eq_false_iff_ne.mpr c4
   have c4b1 : (a0_1 != a1_1) = true := bne_iff_ne.mpr c4
   obtain rfl := Option.some.inj H
   go_enter Try.func23, Try.ntmps23
   go_wp2_with (first | ((with_reducible refine gate_dst (N := 2) rfl ?_); refine box_event ?hg (N := 2) ?hd (cs := #[.int .i64 a0_0, .int .i64 a0_1, .bool a0_2, .slice A0_3 l0_3.length c0_3, .bool a0_4, .slice A0_5 l0_5.length c0_5]) (t := 34) ?hr ?_; (case hd => rfl); (case hg => rfl); (case hr => first | (go_simp; done) | (go_simp; rfl)); intro gb193 hg w30 hbox hb; have n0_ := zzm (zzp (by repeat (first | (with_reducible first | exact HB.out | apply zza | apply zzb | apply zzc) | exact HB.out)) hb); have n1_ := zzm (hbox); have n2_ := zzm ((by rw [hg]; exact (zzo (by repeat (first | (with_reducible first | exact HB.out | apply zza | apply zzb | apply zzc) | exact HB.out))) : w.heap.size ≤ gb193)); have n3_ := zzm ((by rw [hg]; exact (zzo (by repeat (first | (with_reducible first | exact HB.out | apply zza | apply zzb | apply zzc) | exact HB.out))) : w.heap.size ≤ gb193)); clear HB; have HB := n0_; have BK193 := n1_; have GW193 := n2_; have GE193 := n3_; clear n0_ n1_ n2_ n3_ hb hbox hg) | ((with_reducible refine gate_dst (N := 3) rfl ?_); refine box_event ?hg (N := 3) ?hd (cs := #[.int .i64 a1_0, .int .i64 a1_1, .bool a1_2, .slice A1_3 l1_3.length c1_3, .bool a1_4, .slice A1_5 l1_5.length c1_5]) (t := 34) ?hr ?_; (case hd => rfl); (case hg => rfl); (case hr => first | (go_simp; done) | (go_simp; rfl)); intro gb194 hg w31 hbox hb; have n0_ := zzm (zzh (g := gb193) (o := .cells #[.int .i64 a0_0, .int .i64 a0_1, .bool a0_2, .slice A0_3 l0_3.length c0_3, .bool a0_4, .slice A0_5 l0_5.length c0_5] 34 (0, 0)) (by (with_reducible repeat (first | refine zzf ?_ _ | refine zzg ?_ | refine zze ?_ _)); exact BK193.out) hb); have n1_ := zzm (zzp (by repeat (first | (with_reducible first | exact HB.out | apply zza | apply zzb | apply zzc | refine zzd ?_ GE193.out) | exact HB.out)) hb); have n2_ := zzm (hbox); have n3_ := zzm ((by rw [hg]; exact (zzo (by repeat (first | (with_reducible first | exact HB.out | apply zza | apply zzb | apply zzc | refine zzd ?_ GE193.out) | exact HB.out))) : w.heap.size ≤ gb194)); have n4_ := zzm ((by rw [hg]; exact (zzo (by repeat (first | (with_reducible first | exact HB.out | apply zza | apply zzb | apply zzc | refine zzd ?_ GE193.out) | exact HB.out))) : w.heap.size ≤ gb194)); have n5_ := zzm ((by rw [hg]; exact Nat.ne_of_lt (blk_lt (g := gb193) (o := .cells #[.int .i64 a0_0, .int .i64 a0_1, .bool a0_2, .slice A0_3 l0_3.length c0_3, .bool a0_4, .slice A0_5 l0_5.length c0_5] 34 (0, 0)) (by (with_reducible repeat (first | refine zzf ?_ _ | refine zzg ?_ | refine zze ?_ _)); exact BK193.out)) : gb193 ≠ gb194)); have n6_ := zzm ((by rw [hg]; exact Nat.ne_of_gt (blk_lt (g := gb193) (o := .cells #[.int .i64 a0_0, .int .i64 a0_1, .bool a0_2, .slice A0_3 l0_3.length c0_3, .bool a0_4, .slice A0_5 l0_5.length c0_5] 34 (0, 0)) (by (with_reducible repeat (first | refine zzf ?_ _ | refine zzg ?_ | refine zze ?_ _)); exact BK193.out)) : gb194 ≠ gb193)); clear BK193 HB; have BK193 := n0_; have HB := n1_; have BK194 := n2_; have GW194 := n3_; have GE194 := n4_; have NB193_194 := n5_; have NB194_193 := n6_; clear n0_ n1_ n2_ n3_ n4_ n5_ n6_ hb hbox hg; have hnb32 := NB193_194.out; have hnc32 := NB194_193.out; obtain ⟨hcz33_0, hcz33_1, hcz33_2, hcz33_3, hcz33_4, hcz33_5, hfz33_0, hfz33_1, hfz33_2, hfz33_3, hfz33_4, hfz33_5⟩ := zzc6 BK193.out; obtain ⟨hcz34_0, hcz34_1, hcz34_2, hcz34_3, hcz34_4, hcz34_5, hfz34_0, hfz34_1, hfz34_2, hfz34_3, hfz34_4, hfz34_5⟩ := zzc6 BK194.out))
   go_ret
   exact ⟨by first | rfl | (simp [errW_none, errW_some] <;> rfl) | (simp [*, errW_none, errW_some] <;> rfl), by repeat (first | (with_reducible first | exact HB.out | apply zza | apply zzb | apply zzc | refine zzd ?_ GE193.out | refine zzd ?_ GE194.out) | exact HB.out)⟩
 ·
  rw [if_neg c3] at H
  have c3b0 : (a0_0 == a1_0) = false := beq_eq_false_iff_ne.mpr c3
  have c3b1 : (a0_0 != a1_0) = true := bne_iff_ne.mpr c3
  obtain rfl := Option.some.inj H
  go_enter Try.func23, Try.ntmps23
  go_wp2_with (first | ((with_reducible refine gate_dst (N := 2) rfl ?_); refine box_event ?hg (N := 2) ?hd (cs := #[.int .i64 a0_0, .int .i64 a0_1, .bool a0_2, .slice A0_3 l0_3.length c0_3, .bool a0_4, .slice A0_5 l0_5.length c0_5]) (t := 34) ?hr ?_; (case hd => rfl); (case hg => rfl); (case hr => first | (go_simp; done) | (go_simp; rfl)); intro gb193 hg w35 hbox hb; have n0_ := zzm (zzp (by repeat (first | (with_reducible first | exact HB.out | apply zza | apply zzb | apply zzc) | exact HB.out)) hb); have n1_ := zzm (hbox); have n2_ := zzm ((by rw [hg]; exact (zzo (by repeat (first | (with_reducible first | exact HB.out | apply zza | apply zzb | apply zzc) | exact HB.out))) : w.heap.size ≤ gb193)); have n3_ := zzm ((by rw [hg]; exact (zzo (by repeat (first | (with_reducible first | exact HB.out | apply zza | apply zzb | apply zzc) | exact HB.out))) : w.heap.size ≤ gb193)); clear HB; have HB := n0_; have BK193 := n1_; have GW193 := n2_; have GE193 := n3_; clear n0_ n1_ n2_ n3_ hb hbox hg) | ((with_reducible refine gate_dst (N := 3) rfl ?_); refine box_event ?hg (N := 3) ?hd (cs := #[.int .i64 a1_0, .int .i64 a1_1, .bool a1_2, .slice A1_3 l1_3.length c1_3, .bool a1_4, .slice A1_5 l1_5.length c1_5]) (t := 34) ?hr ?_; (case hd => rfl); (case hg => rfl); (case hr => first | (go_simp; done) | (go_simp; rfl)); intro gb194 hg w36 hbox hb; have n0_ := zzm (zzh (g := gb193) (o := .cells #[.int .i64 a0_0, .int .i64 a0_1, .bool a0_2, .slice A0_3 l0_3.length c0_3, .bool a0_4, .slice A0_5 l0_5.length c0_5] 34 (0, 0)) (by (with_reducible repeat (first | refine zzf ?_ _ | refine zzg ?_ | refine zze ?_ _)); exact BK193.out) hb); have n1_ := zzm (zzp (by repeat (first | (with_reducible first | exact HB.out | apply zza | apply zzb | apply zzc | refine zzd ?_ GE193.out) | exact HB.out)) hb); have n2_ := zzm (hbox); have n3_ := zzm ((by rw [hg]; exact (zzo (by repeat (first | (with_reducible first | exact HB.out | apply zza | apply zzb | apply zzc | refine zzd ?_ GE193.out) | exact HB.out))) : w.heap.size ≤ gb194)); have n4_ := zzm ((by rw [hg]; exact (zzo (by repeat (first | (with_reducible first | exact HB.out | apply zza | apply zzb | apply zzc | refine zzd ?_ GE193.out) | exact HB.out))) : w.heap.size ≤ gb194)); have n5_ := zzm ((by rw [hg]; exact Nat.ne_of_lt (blk_lt (g := gb193) (o := .cells #[.int .i64 a0_0, .int .i64 a0_1, .bool a0_2, .slice A0_3 l0_3.length c0_3, .bool a0_4, .slice A0_5 l0_5.length c0_5] 34 (0, 0)) (by (with_reducible repeat (first | refine zzf ?_ _ | refine zzg ?_ | refine zze ?_ _)); exact BK193.out)) : gb193 ≠ gb194)); have n6_ := zzm ((by rw [hg]; exact Nat.ne_of_gt (blk_lt (g := gb193) (o := .cells #[.int .i64 a0_0, .int .i64 a0_1, .bool a0_2, .slice A0_3 l0_3.length c0_3, .bool a0_4, .slice A0_5 l0_5.length c0_5] 34 (0, 0)) (by (with_reducible repeat (first | refine zzf ?_ _ | refine zzg ?_ | refine zze ?_ _)); exact BK193.out)) : gb194 ≠ gb193)); clear BK193 HB; have BK193 := n0_; have HB := n1_; have BK194 := n2_; have GW194 := n3_; have GE194 := n4_; have NB193_194 := n5_; have NB194_193 := n6_; clear n0_ n1_ n2_ n3_ n4_ n5_ n6_ hb hbox hg; have hnb37 := NB193_194.out; have hnc37 := NB194_193.out; obtain ⟨hcz38_0, hcz38_1, hcz38_2, hcz38_3, hcz38_4, hcz38_5, hfz38_0, hfz38_1, hfz38_2, hfz38_3, hfz38_4, hfz38_5⟩ := zzc6 BK193.out; obtain ⟨hcz39_0, hcz39_1, hcz39_2, hcz39_3, hcz39_4, hcz39_5, hfz39_0, hfz39_1, hfz39_2, hfz39_3, hfz39_4, hfz39_5⟩ := zzc6 BK194.out))
  go_ret
  exact ⟨by first | rfl | (simp [errW_none, errW_some] <;> rfl) | (simp [*, errW_none, errW_some] <;> rfl), by repeat (first | (with_reducible first | exact HB.out | apply zza | apply zzb | apply zzc | refine zzd ?_ GE193.out | refine zzd ?_ GE194.out) | exact HB.out)⟩
end Go.Proofs.Yticpnjhkdfdkkaa.T
namespace Go.Proofs.Yticpnjhkdfdkkaa.T
open Go.RowKit Go.Proofs.YticpnjhkdfdkkaaW.PrintWords Go.Proofs.YticpnjhkdfdkkaaW.PrintLast Go.Proofs.YticpnjhkdfdkkaaW.PrintMore

set_option linter.unusedVariables false
set_option linter.unusedSimpArgs false
def laws_sameRecords.l0 : Nat → List (S34) → List (S34) → Int → Option (Bool)
 | 0, _, _, _ => none
 | k + 1, x0, x1, x5 => if x5 < (x0.length : Int) then (if 0 ≤ x5 then (if x5 < (x1.length : Int) then ((laws_sameRecord.f k ((rd_T34 x0 x5).f0) ((rd_T34 x0 x5).f1) ((rd_T34 x0 x5).f2) ((rd_T34 x0 x5).f3) ((rd_T34 x0 x5).f4) ((rd_T34 x0 x5).f5) ((rd_T34 x1 x5).f0) ((rd_T34 x1 x5).f1) ((rd_T34 x1 x5).f2) ((rd_T34 x1 x5).f3) ((rd_T34 x1 x5).f4) ((rd_T34 x1 x5).f5)).bind fun t199 => (if t199 = true then (laws_sameRecords.l0 k x0 x1 (wrap64 (x5 + 1))) else (some false))) else (none)) else (none)) else (some true)
def laws_sameRecords.f (k : Nat) (l0 : List (S34)) (l1 : List (S34)) : Option (Bool) := if (l0.length : Int) = (l1.length : Int) then (laws_sameRecords.l0 k l0 l1 0) else (some false)
def laws_sameRecords.T6 : Bool × List (List Nat × List Nat) := (true, [([], []), ([], []), ([0, 1], [0, 1]), ([2], [2]), ([], []), ([], []), ([4, 5], [4, 5]), ([6], [6]), ([3, 7], [3, 7]), ([8], [8])])
def laws_sameRecords.B6 : List Nat := [0, 0, 3, 7, 0, 0, 48, 112, 255, 511]
theorem laws_sameRecords.tab6 : rtab .any (opsOf Try.f36 6) = laws_sameRecords.T6 := by kernel_rfl
theorem laws_sameRecords.bits6 : waitsOk laws_sameRecords.T6.2 laws_sameRecords.B6 = true := by kernel_rfl
set_option maxHeartbeats 8000000 in
set_option maxRecDepth 100000 in
theorem laws_sameRecords.calls (k : Nat) (A0 : Option Addr) (c0 : Nat) (l0 : List (S34)) (A1 : Option Addr) (c1 : Nat) (l1 : List (S34)) (r : Bool) (w : World) (hr0 : Kd.C k34 w A0 l0.length l0) (hc0 : l0.length ≤ c0) (hr1 : Kd.C k34 w A1 l1.length l1) (hc1 : l1.length ≤ c1) (h : laws_sameRecords.f k l0 l1 = some r) :
  Calls Try.prog 36 #[.slice A0 l0.length c0, .slice A1 l1.length c1] w fun e w' => e = .returned (.bool r) ∧ Below w.heap.size w w' := by
 have hu34 := Try.underlying34
 have HR0 := zzm hr0
 have HC0 := zzm hc0
 clear hr0 hc0
 have HR1 := zzm hr1
 have HC1 := zzm hc1
 clear hr1 hc1
 have HB := zzm (Below.refl w.heap.size w)
 have H : (if (l0.length : Int) = (l1.length : Int) then (laws_sameRecords.l0 k l0 l1 0) else (some false)) = some r := h
 clear h
 by_cases c3 : (l0.length : Int) = (l1.length : Int)
 ·
  rw [if_pos c3] at H
  have c3b0 : ((l0.length : Int) == (l1.length : Int)) = true := beq_iff_eq.mpr c3
  have c3b1 : ((l0.length : Int) != (l1.length : Int)) = false := bne_eq_false_iff_eq.mpr c3
  have c3b2 : (l0.length == l1.length) = true := by first | simpa using c3 | (simp at c3 ⊢; omega)
  clear c3
  have H' := zzm H
  clear H
  go_enter Try.func36, Try.ntmps36
  go_wp2
  go_loopg [5] k (fun kq v5 w' => ∃ (x5_1 : Int), v5 = .int .i64 x5_1 ∧ Aside0 (laws_sameRecords.l0 kq l0 l1 x5_1 = some r) ∧ Aside0 (kq ≤ k) ∧ Aside0 (Below w.heap.size w w'))
  case atStart => exact ⟨(0), (by first | rfl | (simp; done) | (simp [*]; done)), H', ⟨Nat.le_refl _⟩, ⟨by repeat (first | (with_reducible first | exact HB.out | apply zza | apply zzb | apply zzc) | exact HB.out)⟩⟩
  case round =>
   clear H'
   try clear c1
   try clear p2
   try clear c3
   try clear c3b0
   try clear c3b1
   try clear c3b2
   obtain ⟨x5_1, rfl, HA, HK1, HB⟩ := hrel
   cases gk with
   | zero => exact absurd HA.out (by simp [laws_sameRecords.l0])
   | succ k1 =>
    have H := HA.out
    clear HA
    simp only [laws_sameRecords.l0] at H
    by_cases c4 : x5_1 < (l0.length : Int)
    ·
     rw [if_pos c4] at H
     have c4b0 : decide (x5_1 < (l0.length : Int)) = true := decide_eq_true c4
     clear c4
     by_cases c5 : 0 ≤ x5_1
     ·
      rw [if_pos c5] at H
      have c5b0 : decide (0 ≤ x5_1) = true := decide_eq_true c5
      clear c5
      by_cases c6 : x5_1 < (l1.length : Int)
      ·
       rw [if_pos c6] at H
       have c6b0 : decide (x5_1 < (l1.length : Int)) = true := decide_eq_true c6
       clear c6
       replace H := Option.bind_eq_some_iff.mp H
       obtain ⟨t199, A70, H⟩ := H
       replace H : (if t199 = true then (laws_sameRecords.l0 k1 l0 l1 (wrap64 (x5_1 + 1))) else (some false)) = some r := H
       have A7 := zzm A70
       clear A70
       by_cases c8 : t199 = true
       ·
        subst c8
        have H1 : (laws_sameRecords.l0 k1 l0 l1 (wrap64 (x5_1 + 1))) = some r := by rw [if_pos rfl] at H; exact H
        clear H
        have H := H1
        clear H1
        have H' := zzm H
        clear H
        try go_wp2
        have n0_ := zzm (zzc HB.out)
        clear HB
        have HB := n0_
        clear n0_
        have p197 : 0 ≤ (x5_1 : Int) := of_decide_eq_true (by first | (with_reducible assumption) | assumption)
        have q197 : x5_1 < (l0.length : Int) := of_decide_eq_true (by first | (with_reducible assumption) | assumption)
        obtain ⟨ad197, A197_3, c197_3, A197_5, c197_5, e197, hx197_0, hx197_1, hx197_2, hx197_3, hx197_4, hx197_5, hl197_3, hi197_3, hl197_5, hi197_5⟩ := at_T34 HR0.out x5_1 p197 q197
        have hw197_5 := hx197_5
        have hw197_4 := hx197_4
        have hw197_3 := hx197_3
        have hw197_2 := hx197_2
        have hw197_1 := hx197_1
        have hw197_0 := hx197_0
        cases e197
        replace hx197_0 := (HB.out.cell (zzn w _ hx197_0)).trans hx197_0
        replace hx197_1 := (HB.out.cell (zzn w _ hx197_1)).trans hx197_1
        replace hx197_2 := (HB.out.cell (zzn w _ hx197_2)).trans hx197_2
        replace hx197_3 := (HB.out.cell (zzn w _ hx197_3)).trans hx197_3
        replace hx197_4 := (HB.out.cell (zzn w _ hx197_4)).trans hx197_4
        replace hx197_5 := (HB.out.cell (zzn w _ hx197_5)).trans hx197_5
        have HR197_3 := zzm hi197_3
        have HC197_3 := zzm hl197_3
        clear hi197_3 hl197_3
        have HR197_5 := zzm hi197_5
        have HC197_5 := zzm hl197_5
        clear hi197_5 hl197_5
        replace p197 := eq_true p197
        replace q197 := eq_true q197
        have p198 : 0 ≤ (x5_1 : Int) := of_decide_eq_true (by first | (with_reducible assumption) | assumption)
        have q198 : x5_1 < (l1.length : Int) := of_decide_eq_true (by first | (with_reducible assumption) | assumption)
        obtain ⟨ad198, A198_3, c198_3, A198_5, c198_5, e198, hx198_0, hx198_1, hx198_2, hx198_3, hx198_4, hx198_5, hl198_3, hi198_3, hl198_5, hi198_5⟩ := at_T34 HR1.out x5_1 p198 q198
        have hw198_5 := hx198_5
        have hw198_4 := hx198_4
        have hw198_3 := hx198_3
        have hw198_2 := hx198_2
        have hw198_1 := hx198_1
        have hw198_0 := hx198_0
        cases e198
        replace hx198_0 := (HB.out.cell (zzn w _ hx198_0)).trans hx198_0
        replace hx198_1 := (HB.out.cell (zzn w _ hx198_1)).trans hx198_1
        replace hx198_2 := (HB.out.cell (zzn w _ hx198_2)).trans hx198_2
        replace hx198_3 := (HB.out.cell (zzn w _ hx198_3)).trans hx198_3
        replace hx198_4 := (HB.out.cell (zzn w _ hx198_4)).trans hx198_4
        replace hx198_5 := (HB.out.cell (zzn w _ hx198_5)).trans hx198_5
        have HR198_3 := zzm hi198_3
        have HC198_3 := zzm hl198_3
        clear hi198_3 hl198_3
        have HR198_5 := zzm hi198_5
        have HC198_5 := zzm hl198_5
        clear hi198_5 hl198_5
        replace p198 := eq_true p198
        replace q198 := eq_true q198
        refine start_ (n := 10) (S := fun w' => w'.cell? (ad197.add ((x5_1).toNat * 6)) = some (.int .i64 ((rd_T34 l0 x5_1).f0)) ∧ w'.cell? ⟨(ad197.add ((x5_1).toNat * 6)).block, (ad197.add ((x5_1).toNat * 6)).off + 1, none⟩ = some (.int .i64 ((rd_T34 l0 x5_1).f1)) ∧ w'.cell? ⟨(ad197.add ((x5_1).toNat * 6)).block, (ad197.add ((x5_1).toNat * 6)).off + 2, none⟩ = some (.bool ((rd_T34 l0 x5_1).f2)) ∧ w'.cell? ⟨(ad197.add ((x5_1).toNat * 6)).block, (ad197.add ((x5_1).toNat * 6)).off + 3, none⟩ = some (.slice A197_3 ((rd_T34 l0 x5_1).f3).length c197_3) ∧ w'.cell? ⟨(ad197.add ((x5_1).toNat * 6)).block, (ad197.add ((x5_1).toNat * 6)).off + 4, none⟩ = some (.bool ((rd_T34 l0 x5_1).f4)) ∧ w'.cell? ⟨(ad197.add ((x5_1).toNat * 6)).block, (ad197.add ((x5_1).toNat * 6)).off + 5, none⟩ = some (.slice A197_5 ((rd_T34 l0 x5_1).f5).length c197_5) ∧ w'.cell? (ad198.add ((x5_1).toNat * 6)) = some (.int .i64 ((rd_T34 l1 x5_1).f0)) ∧ w'.cell? ⟨(ad198.add ((x5_1).toNat * 6)).block, (ad198.add ((x5_1).toNat * 6)).off + 1, none⟩ = some (.int .i64 ((rd_T34 l1 x5_1).f1)) ∧ w'.cell? ⟨(ad198.add ((x5_1).toNat * 6)).block, (ad198.add ((x5_1).toNat * 6)).off + 2, none⟩ = some (.bool ((rd_T34 l1 x5_1).f2)) ∧ w'.cell? ⟨(ad198.add ((x5_1).toNat * 6)).block, (ad198.add ((x5_1).toNat * 6)).off + 3, none⟩ = some (.slice A198_3 ((rd_T34 l1 x5_1).f3).length c198_3) ∧ w'.cell? ⟨(ad198.add ((x5_1).toNat * 6)).block, (ad198.add ((x5_1).toNat * 6)).off + 4, none⟩ = some (.bool ((rd_T34 l1 x5_1).f4)) ∧ w'.cell? ⟨(ad198.add ((x5_1).toNat * 6)).block, (ad198.add ((x5_1).toNat * 6)).off + 5, none⟩ = some (.slice A198_5 ((rd_T34 l1 x5_1).f5).length c198_5)) (ds := []) #[false, false, false, false, false, false, false, false, false, false] (by kernel_rfl) rfl rfl ⟨((HB.out.cell (zzn w _ hw197_0)).trans hw197_0), ((HB.out.cell (zzn w _ hw197_1)).trans hw197_1), ((HB.out.cell (zzn w _ hw197_2)).trans hw197_2), ((HB.out.cell (zzn w _ hw197_3)).trans hw197_3), ((HB.out.cell (zzn w _ hw197_4)).trans hw197_4), ((HB.out.cell (zzn w _ hw197_5)).trans hw197_5), ((HB.out.cell (zzn w _ hw198_0)).trans hw198_0), ((HB.out.cell (zzn w _ hw198_1)).trans hw198_1), ((HB.out.cell (zzn w _ hw198_2)).trans hw198_2), ((HB.out.cell (zzn w _ hw198_3)).trans hw198_3), ((HB.out.cell (zzn w _ hw198_4)).trans hw198_4), ((HB.out.cell (zzn w _ hw198_5)).trans hw198_5)⟩ (fun hHeld => ?_); refine with_tabW laws_sameRecords.tab6 laws_sameRecords.bits6 (fun HT_ HW_ => ?_)
        generalize wr.drew = w9 at HB HR197_3 HR197_5 HR198_3 HR198_5 hx197_0 hx197_1 hx197_2 hx197_3 hx197_4 hx197_5 hx198_0 hx198_1 hx198_2 hx198_3 hx198_4 hx198_5 hHeld ⊢
        refine pure_ (i := 0) (N := some 17) (v := ?_) (a' := ?_) #[true, false, false, false, false, false, false, false, false, false] rfl rfl (any_of HT_.out (by kernel_rfl)) (fun _ _ _ h => h) (Or.inl ⟨by rfl, ?_⟩) ?_ ?_
        rotate_left
        ·
         intro w'
         go_simp
         with_reducible rfl
        rotate_left
        ·
         simp only [Act.put, zzq, zzr, zzs, i64_w, i32_w]
         rfl
        refine pure_ (i := 1) (N := some 18) (v := ?_) (a' := ?_) #[true, true, false, false, false, false, false, false, false, false] rfl rfl (any_of HT_.out (by kernel_rfl)) (fun _ _ _ h => h) (Or.inl ⟨by rfl, ?_⟩) ?_ ?_
        rotate_left
        ·
         intro w'
         go_simp
         with_reducible rfl
        rotate_left
        ·
         simp only [Act.put, zzq, zzr, zzs, i64_w, i32_w]
         rfl
        refine pure_ (i := 2) (N := some 19) (v := ?_) (a' := ?_) #[true, true, true, false, false, false, false, false, false, false] rfl rfl (any_of HT_.out (by kernel_rfl)) (fun _ _ _ h => h) (Or.inl ⟨by rfl, ?_⟩) ?_ ?_
        rotate_left
        ·
         intro w'
         go_simp
         with_reducible rfl
        rotate_left
        ·
         simp only [Act.put, zzq, zzr, zzs, i64_w, i32_w]
         rfl
        refine pure_ (i := 4) (N := some 21) (v := ?_) (a' := ?_) #[true, true, true, false, true, false, false, false, false, false] rfl rfl (any_of HT_.out (by kernel_rfl)) (fun _ _ _ h => h) (Or.inl ⟨by rfl, ?_⟩) ?_ ?_
        rotate_left
        ·
         intro w'
         go_simp
         with_reducible rfl
        rotate_left
        ·
         simp only [Act.put, zzq, zzr, zzs, i64_w, i32_w]
         rfl
        refine pure_ (i := 5) (N := some 22) (v := ?_) (a' := ?_) #[true, true, true, false, true, true, false, false, false, false] rfl rfl (any_of HT_.out (by kernel_rfl)) (fun _ _ _ h => h) (Or.inl ⟨by rfl, ?_⟩) ?_ ?_
        rotate_left
        ·
         intro w'
         go_simp
         with_reducible rfl
        rotate_left
        ·
         simp only [Act.put, zzq, zzr, zzs, i64_w, i32_w]
         rfl
        refine pure_ (i := 6) (N := some 23) (v := ?_) (a' := ?_) #[true, true, true, false, true, true, true, false, false, false] rfl rfl (any_of HT_.out (by kernel_rfl)) (fun _ _ _ h => h) (Or.inl ⟨by rfl, ?_⟩) ?_ ?_
        rotate_left
        ·
         intro w'
         go_simp
         with_reducible rfl
        rotate_left
        ·
         simp only [Act.put, zzq, zzr, zzs, i64_w, i32_w]
         rfl
        refine take_ (i := 3) (N := some 20) (v := ?_) (a' := ?_) #[true, true, true, true, true, true, true, false, false, false] rfl rfl (take_ofW HT_.out HW_.out (by kernel_rfl)) (fun _ _ _ h => h) (Or.inl ⟨by rfl, ?_⟩) hHeld ?_ ?_
        rotate_left
        ·
         rintro w' ⟨s0, s1, s2, s3, s4, s5, s6, s7, s8, s9, s10, s11⟩
         go_simp
         with_reducible rfl
        rotate_left
        ·
         simp only [Act.put, zzq, zzr, zzs, i64_w, i32_w]
         rfl
        refine take_ (i := 7) (N := some 24) (v := ?_) (a' := ?_) #[true, true, true, true, true, true, true, true, false, false] rfl rfl (take_ofW HT_.out HW_.out (by kernel_rfl)) (fun _ _ _ h => h) (Or.inl ⟨by rfl, ?_⟩) hHeld ?_ ?_
        rotate_left
        ·
         rintro w' ⟨s0, s1, s2, s3, s4, s5, s6, s7, s8, s9, s10, s11⟩
         go_simp
         with_reducible rfl
        rotate_left
        ·
         simp only [Act.put, zzq, zzr, zzs, i64_w, i32_w]
         rfl
        refine one_ (i := 8) (N := some 25) #[true, true, true, true, true, true, true, true, true, false] rfl rfl (one_of HT_.out (by kernel_rfl)) (by decide) (fun K hK => ?_)
        refine goes_ Try.func23 (by kernel_rfl) rfl #[.agg #[.int .i64 ((rd_T34 l0 x5_1).f0), .int .i64 ((rd_T34 l0 x5_1).f1), .bool ((rd_T34 l0 x5_1).f2), .slice A197_3 ((rd_T34 l0 x5_1).f3).length c197_3, .bool ((rd_T34 l0 x5_1).f4), .slice A197_5 ((rd_T34 l0 x5_1).f5).length c197_5], .agg #[.int .i64 ((rd_T34 l1 x5_1).f0), .int .i64 ((rd_T34 l1 x5_1).f1), .bool ((rd_T34 l1 x5_1).f2), .slice A198_3 ((rd_T34 l1 x5_1).f3).length c198_3, .bool ((rd_T34 l1 x5_1).f4), .slice A198_5 ((rd_T34 l1 x5_1).f5).length c198_5]] (by rfl) rfl rfl (by (try simp only [List.map_toArray, List.map_cons, List.map_nil]); first | done | rfl | (simp only [List.length_drop, List.length_take]; rfl)) ?_
        with_reducible refine (laws_sameRecord.calls k1 ((rd_T34 l0 x5_1).f0) ((rd_T34 l0 x5_1).f1) ((rd_T34 l0 x5_1).f2) _ _ ((rd_T34 l0 x5_1).f3) ((rd_T34 l0 x5_1).f4) _ _ ((rd_T34 l0 x5_1).f5) ((rd_T34 l1 x5_1).f0) ((rd_T34 l1 x5_1).f1) ((rd_T34 l1 x5_1).f2) _ _ ((rd_T34 l1 x5_1).f3) ((rd_T34 l1 x5_1).f4) _ _ ((rd_T34 l1 x5_1).f5) true _ ?side1 ?side2 ?side3 ?side4 ?side5 ?side6 ?side7 ?side8 A7.out).mono ?_
        (case side1 => repeat (first | exact (Kd.C_below HR197_3.out HB.out) | (with_reducible refine Kd.C_alloc ?_ _) | (with_reducible refine Kd.C_drewN ?_ _) | (with_reducible refine Kd.C_drew ?_)))
        (case side2 => exact HC197_3.out)
        (case side3 => repeat (first | exact (Kd.C_below HR197_5.out HB.out) | (with_reducible refine Kd.C_alloc ?_ _) | (with_reducible refine Kd.C_drewN ?_ _) | (with_reducible refine Kd.C_drew ?_)))
        (case side4 => exact HC197_5.out)
        (case side5 => repeat (first | exact (Kd.C_below HR198_3.out HB.out) | (with_reducible refine Kd.C_alloc ?_ _) | (with_reducible refine Kd.C_drewN ?_ _) | (with_reducible refine Kd.C_drew ?_)))
        (case side6 => exact HC198_3.out)
        (case side7 => repeat (first | exact (Kd.C_below HR198_5.out HB.out) | (with_reducible refine Kd.C_alloc ?_ _) | (with_reducible refine Kd.C_drewN ?_ _) | (with_reducible refine Kd.C_drew ?_)))
        (case side8 => exact HC198_5.out)
        rintro e w10 ⟨rfl, hb⟩
        refine ⟨_, rfl, ?_⟩
        have n0_ := zzm (zzp (by repeat (first | (with_reducible first | exact HB.out | apply zza | apply zzb | apply zzc) | exact HB.out)) hb)
        clear HB
        have HB := n0_
        clear n0_
        (try clear hb)
        (try clear hb2)
        (try clear hk)
        (try clear hi)
        refine hK.out _ _ ⟨((HB.out.cell (zzn w _ hw197_0)).trans hw197_0), ((HB.out.cell (zzn w _ hw197_1)).trans hw197_1), ((HB.out.cell (zzn w _ hw197_2)).trans hw197_2), ((HB.out.cell (zzn w _ hw197_3)).trans hw197_3), ((HB.out.cell (zzn w _ hw197_4)).trans hw197_4), ((HB.out.cell (zzn w _ hw197_5)).trans hw197_5), ((HB.out.cell (zzn w _ hw198_0)).trans hw198_0), ((HB.out.cell (zzn w _ hw198_1)).trans hw198_1), ((HB.out.cell (zzn w _ hw198_2)).trans hw198_2), ((HB.out.cell (zzn w _ hw198_3)).trans hw198_3), ((HB.out.cell (zzn w _ hw198_4)).trans hw198_4), ((HB.out.cell (zzn w _ hw198_5)).trans hw198_5)⟩ (fun hHeld => ?_)
        clear hK K
        refine norm_ (a' := ?_) ?_ ?_
        rotate_left
        ·
         show Act.put _ (some 25) _ = _
         simp only [Act.put, zzq, zzr, zzs, i64_w, i32_w]
         rfl
        refine pure_ (i := 9) (N := some 26) (v := ?_) (a' := ?_) #[true, true, true, true, true, true, true, true, true, true] rfl rfl (any_of HT_.out (by kernel_rfl)) (fun _ _ _ h => h) (Or.inl ⟨by rfl, ?_⟩) ?_ ?_
        rotate_left
        ·
         intro w'
         go_simp
         with_reducible rfl
        rotate_left
        ·
         simp only [Act.put, zzq, zzr, zzs, i64_w, i32_w]
         rfl
        refine done_ (done_of HT_.out (by kernel_rfl)) ?_
        try go_wp2
        go_roundg k1
        case measure => have := HK1.out; omega
        case rel => exact ⟨(wrap64 (x5_1 + 1)), (by first | rfl | (simp; done) | (simp [*]; done)), H', ⟨by have := HK1.out; omega⟩, ⟨by repeat (first | (with_reducible first | exact HB.out | apply zza | apply zzb | apply zzc) | exact HB.out)⟩⟩
       ·
        replace c8 := Bool.eq_false_iff.mpr c8
        subst c8
        have H1 : (some false) = some r := by rw [if_neg (show ¬ (false = true) by decide)] at H; exact H
        clear H
        have H := H1
        clear H1
        obtain rfl := Option.some.inj H
        try go_wp2
        have n0_ := zzm (zzc HB.out)
        clear HB
        have HB := n0_
        clear n0_
        have p197 : 0 ≤ (x5_1 : Int) := of_decide_eq_true (by first | (with_reducible assumption) | assumption)
        have q197 : x5_1 < (l0.length : Int) := of_decide_eq_true (by first | (with_reducible assumption) | assumption)
        obtain ⟨ad197, A197_3, c197_3, A197_5, c197_5, e197, hx197_0, hx197_1, hx197_2, hx197_3, hx197_4, hx197_5, hl197_3, hi197_3, hl197_5, hi197_5⟩ := at_T34 HR0.out x5_1 p197 q197
        have hw197_5 := hx197_5
        have hw197_4 := hx197_4
        have hw197_3 := hx197_3
        have hw197_2 := hx197_2
        have hw197_1 := hx197_1
        have hw197_0 := hx197_0
        cases e197
        replace hx197_0 := (HB.out.cell (zzn w _ hx197_0)).trans hx197_0
        replace hx197_1 := (HB.out.cell (zzn w _ hx197_1)).trans hx197_1
        replace hx197_2 := (HB.out.cell (zzn w _ hx197_2)).trans hx197_2
        replace hx197_3 := (HB.out.cell (zzn w _ hx197_3)).trans hx197_3
        replace hx197_4 := (HB.out.cell (zzn w _ hx197_4)).trans hx197_4
        replace hx197_5 := (HB.out.cell (zzn w _ hx197_5)).trans hx197_5
        have HR197_3 := zzm hi197_3
        have HC197_3 := zzm hl197_3
        clear hi197_3 hl197_3
        have HR197_5 := zzm hi197_5
        have HC197_5 := zzm hl197_5
        clear hi197_5 hl197_5
        replace p197 := eq_true p197
        replace q197 := eq_true q197
        have p198 : 0 ≤ (x5_1 : Int) := of_decide_eq_true (by first | (with_reducible assumption) | assumption)
        have q198 : x5_1 < (l1.length : Int) := of_decide_eq_true (by first | (with_reducible assumption) | assumption)
        obtain ⟨ad198, A198_3, c198_3, A198_5, c198_5, e198, hx198_0, hx198_1, hx198_2, hx198_3, hx198_4, hx198_5, hl198_3, hi198_3, hl198_5, hi198_5⟩ := at_T34 HR1.out x5_1 p198 q198
        have hw198_5 := hx198_5
        have hw198_4 := hx198_4
        have hw198_3 := hx198_3
        have hw198_2 := hx198_2
        have hw198_1 := hx198_1
        have hw198_0 := hx198_0
        cases e198
        replace hx198_0 := (HB.out.cell (zzn w _ hx198_0)).trans hx198_0
        replace hx198_1 := (HB.out.cell (zzn w _ hx198_1)).trans hx198_1
        replace hx198_2 := (HB.out.cell (zzn w _ hx198_2)).trans hx198_2
        replace hx198_3 := (HB.out.cell (zzn w _ hx198_3)).trans hx198_3
        replace hx198_4 := (HB.out.cell (zzn w _ hx198_4)).trans hx198_4
        replace hx198_5 := (HB.out.cell (zzn w _ hx198_5)).trans hx198_5
        have HR198_3 := zzm hi198_3
        have HC198_3 := zzm hl198_3
        clear hi198_3 hl198_3
        have HR198_5 := zzm hi198_5
        have HC198_5 := zzm hl198_5
        clear hi198_5 hl198_5
        replace p198 := eq_true p198
        replace q198 := eq_true q198
        refine start_ (n := 10) (S := fun w' => w'.cell? (ad197.add ((x5_1).toNat * 6)) = some (.int .i64 ((rd_T34 l0 x5_1).f0)) ∧ w'.cell? ⟨(ad197.add ((x5_1).toNat * 6)).block, (ad197.add ((x5_1).toNat * 6)).off + 1, none⟩ = some (.int .i64 ((rd_T34 l0 x5_1).f1)) ∧ w'.cell? ⟨(ad197.add ((x5_1).toNat * 6)).block, (ad197.add ((x5_1).toNat * 6)).off + 2, none⟩ = some (.bool ((rd_T34 l0 x5_1).f2)) ∧ w'.cell? ⟨(ad197.add ((x5_1).toNat * 6)).block, (ad197.add ((x5_1).toNat * 6)).off + 3, none⟩ = some (.slice A197_3 ((rd_T34 l0 x5_1).f3).length c197_3) ∧ w'.cell? ⟨(ad197.add ((x5_1).toNat * 6)).block, (ad197.add ((x5_1).toNat * 6)).off + 4, none⟩ = some (.bool ((rd_T34 l0 x5_1).f4)) ∧ w'.cell? ⟨(ad197.add ((x5_1).toNat * 6)).block, (ad197.add ((x5_1).toNat * 6)).off + 5, none⟩ = some (.slice A197_5 ((rd_T34 l0 x5_1).f5).length c197_5) ∧ w'.cell? (ad198.add ((x5_1).toNat * 6)) = some (.int .i64 ((rd_T34 l1 x5_1).f0)) ∧ w'.cell? ⟨(ad198.add ((x5_1).toNat * 6)).block, (ad198.add ((x5_1).toNat * 6)).off + 1, none⟩ = some (.int .i64 ((rd_T34 l1 x5_1).f1)) ∧ w'.cell? ⟨(ad198.add ((x5_1).toNat * 6)).block, (ad198.add ((x5_1).toNat * 6)).off + 2, none⟩ = some (.bool ((rd_T34 l1 x5_1).f2)) ∧ w'.cell? ⟨(ad198.add ((x5_1).toNat * 6)).block, (ad198.add ((x5_1).toNat * 6)).off + 3, none⟩ = some (.slice A198_3 ((rd_T34 l1 x5_1).f3).length c198_3) ∧ w'.cell? ⟨(ad198.add ((x5_1).toNat * 6)).block, (ad198.add ((x5_1).toNat * 6)).off + 4, none⟩ = some (.bool ((rd_T34 l1 x5_1).f4)) ∧ w'.cell? ⟨(ad198.add ((x5_1).toNat * 6)).block, (ad198.add ((x5_1).toNat * 6)).off + 5, none⟩ = some (.slice A198_5 ((rd_T34 l1 x5_1).f5).length c198_5)) (ds := []) #[false, false, false, false, false, false, false, false, false, false] (by kernel_rfl) rfl rfl ⟨((HB.out.cell (zzn w _ hw197_0)).trans hw197_0), ((HB.out.cell (zzn w _ hw197_1)).trans hw197_1), ((HB.out.cell (zzn w _ hw197_2)).trans hw197_2), ((HB.out.cell (zzn w _ hw197_3)).trans hw197_3), ((HB.out.cell (zzn w _ hw197_4)).trans hw197_4), ((HB.out.cell (zzn w _ hw197_5)).trans hw197_5), ((HB.out.cell (zzn w _ hw198_0)).trans hw198_0), ((HB.out.cell (zzn w _ hw198_1)).trans hw198_1), ((HB.out.cell (zzn w _ hw198_2)).trans hw198_2), ((HB.out.cell (zzn w _ hw198_3)).trans hw198_3), ((HB.out.cell (zzn w _ hw198_4)).trans hw198_4), ((HB.out.cell (zzn w _ hw198_5)).trans hw198_5)⟩ (fun hHeld => ?_); refine with_tabW laws_sameRecords.tab6 laws_sameRecords.bits6 (fun HT_ HW_ => ?_)
        generalize wr.drew = w11 at HB HR197_3 HR197_5 HR198_3 HR198_5 hx197_0 hx197_1 hx197_2 hx197_3 hx197_4 hx197_5 hx198_0 hx198_1 hx198_2 hx198_3 hx198_4 hx198_5 hHeld ⊢
        refine pure_ (i := 0) (N := some 17) (v := ?_) (a' := ?_) #[true, false, false, false, false, false, false, false, false, false] rfl rfl (any_of HT_.out (by kernel_rfl)) (fun _ _ _ h => h) (Or.inl ⟨by rfl, ?_⟩) ?_ ?_
        rotate_left
        ·
         intro w'
         go_simp
         with_reducible rfl
        rotate_left
        ·
         simp only [Act.put, zzq, zzr, zzs, i64_w, i32_w]
         rfl
        refine pure_ (i := 1) (N := some 18) (v := ?_) (a' := ?_) #[true, true, false, false, false, false, false, false, false, false] rfl rfl (any_of HT_.out (by kernel_rfl)) (fun _ _ _ h => h) (Or.inl ⟨by rfl, ?_⟩) ?_ ?_
        rotate_left
        ·
         intro w'
         go_simp
         with_reducible rfl
        rotate_left
        ·
         simp only [Act.put, zzq, zzr, zzs, i64_w, i32_w]
         rfl
        refine pure_ (i := 2) (N := some 19) (v := ?_) (a' := ?_) #[true, true, true, false, false, false, false, false, false, false] rfl rfl (any_of HT_.out (by kernel_rfl)) (fun _ _ _ h => h) (Or.inl ⟨by rfl, ?_⟩) ?_ ?_
        rotate_left
        ·
         intro w'
         go_simp
         with_reducible rfl
        rotate_left
        ·
         simp only [Act.put, zzq, zzr, zzs, i64_w, i32_w]
         rfl
        refine pure_ (i := 4) (N := some 21) (v := ?_) (a' := ?_) #[true, true, true, false, true, false, false, false, false, false] rfl rfl (any_of HT_.out (by kernel_rfl)) (fun _ _ _ h => h) (Or.inl ⟨by rfl, ?_⟩) ?_ ?_
        rotate_left
        ·
         intro w'
         go_simp
         with_reducible rfl
        rotate_left
        ·
         simp only [Act.put, zzq, zzr, zzs, i64_w, i32_w]
         rfl
        refine pure_ (i := 5) (N := some 22) (v := ?_) (a' := ?_) #[true, true, true, false, true, true, false, false, false, false] rfl rfl (any_of HT_.out (by kernel_rfl)) (fun _ _ _ h => h) (Or.inl ⟨by rfl, ?_⟩) ?_ ?_
        rotate_left
        ·
         intro w'
         go_simp
         with_reducible rfl
        rotate_left
        ·
         simp only [Act.put, zzq, zzr, zzs, i64_w, i32_w]
         rfl
        refine pure_ (i := 6) (N := some 23) (v := ?_) (a' := ?_) #[true, true, true, false, true, true, true, false, false, false] rfl rfl (any_of HT_.out (by kernel_rfl)) (fun _ _ _ h => h) (Or.inl ⟨by rfl, ?_⟩) ?_ ?_
        rotate_left
        ·
         intro w'
         go_simp
         with_reducible rfl
        rotate_left
        ·
         simp only [Act.put, zzq, zzr, zzs, i64_w, i32_w]
         rfl
        refine take_ (i := 3) (N := some 20) (v := ?_) (a' := ?_) #[true, true, true, true, true, true, true, false, false, false] rfl rfl (take_ofW HT_.out HW_.out (by kernel_rfl)) (fun _ _ _ h => h) (Or.inl ⟨by rfl, ?_⟩) hHeld ?_ ?_
        rotate_left
        ·
         rintro w' ⟨s0, s1, s2, s3, s4, s5, s6, s7, s8, s9, s10, s11⟩
         go_simp
         with_reducible rfl
        rotate_left
        ·
         simp only [Act.put, zzq, zzr, zzs, i64_w, i32_w]
         rfl
        refine take_ (i := 7) (N := some 24) (v := ?_) (a' := ?_) #[true, true, true, true, true, true, true, true, false, false] rfl rfl (take_ofW HT_.out HW_.out (by kernel_rfl)) (fun _ _ _ h => h) (Or.inl ⟨by rfl, ?_⟩) hHeld ?_ ?_
        rotate_left
        ·
         rintro w' ⟨s0, s1, s2, s3, s4, s5, s6, s7, s8, s9, s10, s11⟩
         go_simp
         with_reducible rfl
        rotate_left
        ·
         simp only [Act.put, zzq, zzr, zzs, i64_w, i32_w]
         rfl
        refine one_ (i := 8) (N := some 25) #[true, true, true, true, true, true, true, true, true, false] rfl rfl (one_of HT_.out (by kernel_rfl)) (by decide) (fun K hK => ?_)
        refine goes_ Try.func23 (by kernel_rfl) rfl #[.agg #[.int .i64 ((rd_T34 l0 x5_1).f0), .int .i64 ((rd_T34 l0 x5_1).f1), .bool ((rd_T34 l0 x5_1).f2), .slice A197_3 ((rd_T34 l0 x5_1).f3).length c197_3, .bool ((rd_T34 l0 x5_1).f4), .slice A197_5 ((rd_T34 l0 x5_1).f5).length c197_5], .agg #[.int .i64 ((rd_T34 l1 x5_1).f0), .int .i64 ((rd_T34 l1 x5_1).f1), .bool ((rd_T34 l1 x5_1).f2), .slice A198_3 ((rd_T34 l1 x5_1).f3).length c198_3, .bool ((rd_T34 l1 x5_1).f4), .slice A198_5 ((rd_T34 l1 x5_1).f5).length c198_5]] (by rfl) rfl rfl (by (try simp only [List.map_toArray, List.map_cons, List.map_nil]); first | done | rfl | (simp only [List.length_drop, List.length_take]; rfl)) ?_
        with_reducible refine (laws_sameRecord.calls k1 ((rd_T34 l0 x5_1).f0) ((rd_T34 l0 x5_1).f1) ((rd_T34 l0 x5_1).f2) _ _ ((rd_T34 l0 x5_1).f3) ((rd_T34 l0 x5_1).f4) _ _ ((rd_T34 l0 x5_1).f5) ((rd_T34 l1 x5_1).f0) ((rd_T34 l1 x5_1).f1) ((rd_T34 l1 x5_1).f2) _ _ ((rd_T34 l1 x5_1).f3) ((rd_T34 l1 x5_1).f4) _ _ ((rd_T34 l1 x5_1).f5) false _ ?side1 ?side2 ?side3 ?side4 ?side5 ?side6 ?side7 ?side8 A7.out).mono ?_
        (case side1 => repeat (first | exact (Kd.C_below HR197_3.out HB.out) | (with_reducible refine Kd.C_alloc ?_ _) | (with_reducible refine Kd.C_drewN ?_ _) | (with_reducible refine Kd.C_drew ?_)))
        (case side2 => exact HC197_3.out)
        (case side3 => repeat (first | exact (Kd.C_below HR197_5.out HB.out) | (with_reducible refine Kd.C_alloc ?_ _) | (with_reducible refine Kd.C_drewN ?_ _) | (with_reducible refine Kd.C_drew ?_)))
        (case side4 => exact HC197_5.out)
        (case side5 => repeat (first | exact (Kd.C_below HR198_3.out HB.out) | (with_reducible refine Kd.C_alloc ?_ _) | (with_reducible refine Kd.C_drewN ?_ _) | (with_reducible refine Kd.C_drew ?_)))
        (case side6 => exact HC198_3.out)
        (case side7 => repeat (first | exact (Kd.C_below HR198_5.out HB.out) | (with_reducible refine Kd.C_alloc ?_ _) | (with_reducible refine Kd.C_drewN ?_ _) | (with_reducible refine Kd.C_drew ?_)))
        (case side8 => exact HC198_5.out)
        rintro e w12 ⟨rfl, hb⟩
        refine ⟨_, rfl, ?_⟩
        have n0_ := zzm (zzp (by repeat (first | (with_reducible first | exact HB.out | apply zza | apply zzb | apply zzc) | exact HB.out)) hb)
        clear HB
        have HB := n0_
        clear n0_
        (try clear hb)
        (try clear hb2)
        (try clear hk)
        (try clear hi)
        refine hK.out _ _ ⟨((HB.out.cell (zzn w _ hw197_0)).trans hw197_0), ((HB.out.cell (zzn w _ hw197_1)).trans hw197_1), ((HB.out.cell (zzn w _ hw197_2)).trans hw197_2), ((HB.out.cell (zzn w _ hw197_3)).trans hw197_3), ((HB.out.cell (zzn w _ hw197_4)).trans hw197_4), ((HB.out.cell (zzn w _ hw197_5)).trans hw197_5), ((HB.out.cell (zzn w _ hw198_0)).trans hw198_0), ((HB.out.cell (zzn w _ hw198_1)).trans hw198_1), ((HB.out.cell (zzn w _ hw198_2)).trans hw198_2), ((HB.out.cell (zzn w _ hw198_3)).trans hw198_3), ((HB.out.cell (zzn w _ hw198_4)).trans hw198_4), ((HB.out.cell (zzn w _ hw198_5)).trans hw198_5)⟩ (fun hHeld => ?_)
        clear hK K
        refine norm_ (a' := ?_) ?_ ?_
        rotate_left
        ·
         show Act.put _ (some 25) _ = _
         simp only [Act.put, zzq, zzr, zzs, i64_w, i32_w]
         rfl
        refine pure_ (i := 9) (N := some 26) (v := ?_) (a' := ?_) #[true, true, true, true, true, true, true, true, true, true] rfl rfl (any_of HT_.out (by kernel_rfl)) (fun _ _ _ h => h) (Or.inl ⟨by rfl, ?_⟩) ?_ ?_
        rotate_left
        ·
         intro w'
         go_simp
         with_reducible rfl
        rotate_left
        ·
         simp only [Act.put, zzq, zzr, zzs, i64_w, i32_w]
         rfl
        refine done_ (done_of HT_.out (by kernel_rfl)) ?_
        try go_wp2
        go_ret
        exact ⟨by first | rfl | (simp [errW_none, errW_some] <;> rfl) | (simp [*, errW_none, errW_some] <;> rfl), by repeat (first | (with_reducible first | exact HB.out | apply zza | apply zzb | apply zzc) | exact HB.out)⟩
      ·
       rw [if_neg c6] at H
       exact absurd H (by simp)
     ·
      rw [if_neg c5] at H
      exact absurd H (by simp)
    ·
     rw [if_neg c4] at H
     have c4b0 : decide (x5_1 < (l0.length : Int)) = false := decide_eq_false c4
     clear c4
     obtain rfl := Option.some.inj H
     go_wp2
     go_ret
     exact ⟨by first | rfl | (simp [errW_none, errW_some] <;> rfl) | (simp [*, errW_none, errW_some] <;> rfl), by repeat (first | (with_reducible first | exact HB.out | apply zza | apply zzb | apply zzc) | exact HB.out)⟩
 ·
  rw [if_neg c3] at H
  have c3b0 : ((l0.length : Int) == (l1.length : Int)) = false := beq_eq_false_iff_ne.mpr c3
  have c3b1 : ((l0.length : Int) != (l1.length : Int)) = true := bne_iff_ne.mpr c3
  have c3b2 : (l0.length == l1.length) = false := by first | simpa using c3 | (simp at c3 ⊢; omega)
  obtain rfl := Option.some.inj H
  go_enter Try.func36, Try.ntmps36
  go_wp2
  go_ret
  exact ⟨by first | rfl | (simp [errW_none, errW_some] <;> rfl) | (simp [*, errW_none, errW_some] <;> rfl), by repeat (first | (with_reducible first | exact HB.out | apply zza | apply zzb | apply zzc) | exact HB.out)⟩
end Go.Proofs.Yticpnjhkdfdkkaa.T
namespace Go.Proofs.Yticpnjhkdfdkkaa.T
open Go.RowKit Go.Proofs.YticpnjhkdfdkkaaW.PrintWords Go.Proofs.YticpnjhkdfdkkaaW.PrintLast Go.Proofs.YticpnjhkdfdkkaaW.PrintMore

set_option linter.unusedVariables false
set_option linter.unusedSimpArgs false
def laws_sameBatch.f (k : Nat) (a0_0 : Bool) (a0_1 : Bool) (a0_2 : Int) (a0_3 : Int) (a0_4 : Int) (l0_5 : List (S34)) (a1_0 : Bool) (a1_1 : Bool) (a1_2 : Int) (a1_3 : Int) (a1_4 : Int) (l1_5 : List (S34)) : Option (Bool) := if (a0_0 == a1_0) = true then (if (a0_1 == a1_1) = true then (if a0_2 = a1_2 then (if a0_3 = a1_3 then (if a0_4 = a1_4 then ((laws_sameRecords.f k l0_5 l1_5).bind fun t202 => (some t202)) else (some false)) else (some false)) else (some false)) else (some false)) else (some false)
set_option maxHeartbeats 8000000 in
set_option maxRecDepth 100000 in
theorem laws_sameBatch.calls (k : Nat) (a0_0 : Bool) (a0_1 : Bool) (a0_2 : Int) (a0_3 : Int) (a0_4 : Int) (A0_5 : Option Addr) (c0_5 : Nat) (l0_5 : List (S34)) (a1_0 : Bool) (a1_1 : Bool) (a1_2 : Int) (a1_3 : Int) (a1_4 : Int) (A1_5 : Option Addr) (c1_5 : Nat) (l1_5 : List (S34)) (r : Bool) (w : World) (hr0_5 : Kd.C k34 w A0_5 l0_5.length l0_5) (hc0_5 : l0_5.length ≤ c0_5) (hr1_5 : Kd.C k34 w A1_5 l1_5.length l1_5) (hc1_5 : l1_5.length ≤ c1_5) (h : laws_sameBatch.f k a0_0 a0_1 a0_2 a0_3 a0_4 l0_5 a1_0 a1_1 a1_2 a1_3 a1_4 l1_5 = some r) :
  Calls Try.prog 21 #[.agg #[.bool a0_0, .bool a0_1, .int .i64 a0_2, .int .i64 a0_3, .int .i64 a0_4, .slice A0_5 l0_5.length c0_5], .agg #[.bool a1_0, .bool a1_1, .int .i64 a1_2, .int .i64 a1_3, .int .i64 a1_4, .slice A1_5 l1_5.length c1_5]] w fun e w' => e = .returned (.bool r) ∧ Below w.heap.size w w' := by
 have hu27 := Try.underlying27
 have HR0_5 := zzm hr0_5
 have HC0_5 := zzm hc0_5
 clear hr0_5 hc0_5
 have HR1_5 := zzm hr1_5
 have HC1_5 := zzm hc1_5
 clear hr1_5 hc1_5
 have HB := zzm (Below.refl w.heap.size w)
 have H : (if (a0_0 == a1_0) = true then (if (a0_1 == a1_1) = true then (if a0_2 = a1_2 then (if a0_3 = a1_3 then (if a0_4 = a1_4 then ((laws_sameRecords.f k l0_5 l1_5).bind fun t202 => (some t202)) else (some false)) else (some false)) else (some false)) else (some false)) else (some false)) = some r := h
 clear h
 by_cases c3 : (a0_0 == a1_0) = true
 ·
  rw [if_pos c3] at H
  have c3b0 : (a0_0 == a1_0) = true := c3
  (try (have c3b1 : decide (a0_0 = a1_0) = true := by simpa using c3))
  (try (have c3b2 : (a0_0 == a1_0) = true := by simpa using c3))
  clear c3
  by_cases c4 : (a0_1 == a1_1) = true
  ·
   rw [if_pos c4] at H
   have c4b0 : (a0_1 == a1_1) = true := c4
   (try (have c4b1 : decide (a0_1 = a1_1) = true := by simpa using c4))
   (try (have c4b2 : (a0_1 == a1_1) = true := by simpa using c4))
   clear c4
   by_cases c5 : a0_2 = a1_2
   ·
    rw [if_pos c5] at H
    have c5b0 : (a0_2 == a1_2) = true := beq_iff_eq.mpr c5
    have c5b1 : (a0_2 != a1_2) = false := bne_eq_false_iff_eq.mpr c5
    clear c5
    by_cases c6 : a0_3 = a1_3
    ·
     rw [if_pos c6] at H
     have c6b0 : (a0_3 == a1_3) = true := beq_iff_eq.mpr c6
     have c6b1 : (a0_3 != a1_3) = false := bne_eq_false_iff_eq.mpr c6
     clear c6
     by_cases c7 : a0_4 = a1_4
     ·
      rw [if_pos c7] at H
      have c7b0 : (a0_4 == a1_4) = true := beq_iff_eq.mpr c7
      have c7b1 : (a0_4 != a1_4) = false := bne_eq_false_iff_eq.mpr c7
      clear c7
      replace H := Option.bind_eq_some_iff.mp H
      obtain ⟨t202, A80, H⟩ := H
      replace H : (some t202) = some r := H
      have A8 := zzm A80
      clear A80
      obtain rfl := Option.some.inj H
      go_enter Try.func21, Try.ntmps21
      go_wp2_with (first | ((with_reducible refine gate_dst (N := 2) rfl ?_); refine box_event ?hg (N := 2) ?hd (cs := #[.bool a0_0, .bool a0_1, .int .i64 a0_2, .int .i64 a0_3, .int .i64 a0_4, .slice A0_5 l0_5.length c0_5]) (t := 27) ?hr ?_; (case hd => rfl); (case hg => rfl); (case hr => first | (go_simp; done) | (go_simp; rfl)); intro gb200 hg w9 hbox hb; have n0_ := zzm (zzp (by repeat (first | (with_reducible first | exact HB.out | apply zza | apply zzb | apply zzc) | exact HB.out)) hb); have n1_ := zzm (hbox); have n2_ := zzm ((by rw [hg]; exact (zzo (by repeat (first | (with_reducible first | exact HB.out | apply zza | apply zzb | apply zzc) | exact HB.out))) : w.heap.size ≤ gb200)); have n3_ := zzm ((by rw [hg]; exact (zzo (by repeat (first | (with_reducible first | exact HB.out | apply zza | apply zzb | apply zzc) | exact HB.out))) : w.heap.size ≤ gb200)); clear HB; have HB := n0_; have BK200 := n1_; have GW200 := n2_; have GE200 := n3_; clear n0_ n1_ n2_ n3_ hb hbox hg) | ((with_reducible refine gate_dst (N := 3) rfl ?_); refine box_event ?hg (N := 3) ?hd (cs := #[.bool a1_0, .bool a1_1, .int .i64 a1_2, .int .i64 a1_3, .int .i64 a1_4, .slice A1_5 l1_5.length c1_5]) (t := 27) ?hr ?_; (case hd => rfl); (case hg => rfl); (case hr => first | (go_simp; done) | (go_simp; rfl)); intro gb201 hg w10 hbox hb; have n0_ := zzm (zzh (g := gb200) (o := .cells #[.bool a0_0, .bool a0_1, .int .i64 a0_2, .int .i64 a0_3, .int .i64 a0_4, .slice A0_5 l0_5.length c0_5] 27 (0, 0)) (by (with_reducible repeat (first | refine zzf ?_ _ | refine zzg ?_ | refine zze ?_ _)); exact BK200.out) hb); have n1_ := zzm (zzp (by repeat (first | (with_reducible first | exact HB.out | apply zza | apply zzb | apply zzc | refine zzd ?_ GE200.out) | exact HB.out)) hb); have n2_ := zzm (hbox); have n3_ := zzm ((by rw [hg]; exact (zzo (by repeat (first | (with_reducible first | exact HB.out | apply zza | apply zzb | apply zzc | refine zzd ?_ GE200.out) | exact HB.out))) : w.heap.size ≤ gb201)); have n4_ := zzm ((by rw [hg]; exact (zzo (by repeat (first | (with_reducible first | exact HB.out | apply zza | apply zzb | apply zzc | refine zzd ?_ GE200.out) | exact HB.out))) : w.heap.size ≤ gb201)); have n5_ := zzm ((by rw [hg]; exact Nat.ne_of_lt (blk_lt (g := gb200) (o := .cells #[.bool a0_0, .bool a0_1, .int .i64 a0_2, .int .i64 a0_3, .int .i64 a0_4, .slice A0_5 l0_5.length c0_5] 27 (0, 0)) (by (with_reducible repeat (first | refine zzf ?_ _ | refine zzg ?_ | refine zze ?_ _)); exact BK200.out)) : gb200 ≠ gb201)); have n6_ := zzm ((by rw [hg]; exact Nat.ne_of_gt (blk_lt (g := gb200) (o := .cells #[.bool a0_0, .bool a0_1, .int .i64 a0_2, .int .i64 a0_3, .int .i64 a0_4, .slice A0_5 l0_5.length c0_5] 27 (0, 0)) (by (with_reducible repeat (first | refine zzf ?_ _ | refine zzg ?_ | refine zze ?_ _)); exact BK200.out)) : gb201 ≠ gb200)); clear BK200 HB; have BK200 := n0_; have HB := n1_; have BK201 := n2_; have GW201 := n3_; have GE201 := n4_; have NB200_201 := n5_; have NB201_200 := n6_; clear n0_ n1_ n2_ n3_ n4_ n5_ n6_ hb hbox hg; have hnb11 := NB200_201.out; have hnc11 := NB201_200.out; obtain ⟨hcz12_0, hcz12_1, hcz12_2, hcz12_3, hcz12_4, hcz12_5, hfz12_0, hfz12_1, hfz12_2, hfz12_3, hfz12_4, hfz12_5⟩ := zzc6 BK200.out; obtain ⟨hcz13_0, hcz13_1, hcz13_2, hcz13_3, hcz13_4, hcz13_5, hfz13_0, hfz13_1, hfz13_2, hfz13_3, hfz13_4, hfz13_5⟩ := zzc6 BK201.out) | (go_at_call 36; (with_reducible refine (laws_sameRecords.calls k _ _ l0_5 _ _ l1_5 t202 _ ?side1 ?side2 ?side3 ?side4 A8.out).mono ?_); (case side1 => repeat (first | exact (Kd.C_below HR0_5.out HB.out) | (with_reducible refine Kd.C_alloc ?_ _) | (with_reducible refine Kd.C_drewN ?_ _) | (with_reducible refine Kd.C_drew ?_))); (case side2 => exact HC0_5.out); (case side3 => repeat (first | exact (Kd.C_below HR1_5.out HB.out) | (with_reducible refine Kd.C_alloc ?_ _) | (with_reducible refine Kd.C_drewN ?_ _) | (with_reducible refine Kd.C_drew ?_))); (case side4 => exact HC1_5.out); rintro e w14 ⟨rfl, hb⟩; have n0_ := zzm (zzh (g := gb200) (o := .cells #[.bool a0_0, .bool a0_1, .int .i64 a0_2, .int .i64 a0_3, .int .i64 a0_4, .slice A0_5 l0_5.length c0_5] 27 (0, 0)) (by (with_reducible repeat (first | refine zzf ?_ _ | refine zzg ?_ | refine zze ?_ _)); exact BK200.out) hb); have n1_ := zzm (zzh (g := gb201) (o := .cells #[.bool a1_0, .bool a1_1, .int .i64 a1_2, .int .i64 a1_3, .int .i64 a1_4, .slice A1_5 l1_5.length c1_5] 27 (0, 0)) (by (with_reducible repeat (first | refine zzf ?_ _ | refine zzg ?_ | refine zze ?_ _)); exact BK201.out) hb); have n2_ := zzm (zzp (by repeat (first | (with_reducible first | exact HB.out | apply zza | apply zzb | apply zzc | refine zzd ?_ GE200.out | refine zzd ?_ GE201.out) | exact HB.out)) hb); clear BK200 BK201 HB; have BK200 := n0_; have BK201 := n1_; have HB := n2_; clear n0_ n1_ n2_; (try clear hb); (try clear hb2); (try clear hk); (try clear hi)))
      go_ret
      exact ⟨by first | rfl | (simp [errW_none, errW_some] <;> rfl) | (simp [*, errW_none, errW_some] <;> rfl), by repeat (first | (with_reducible first | exact HB.out | apply zza | apply zzb | apply zzc | refine zzd ?_ GE200.out | refine zzd ?_ GE201.out) | exact HB.out)⟩
     ·
      rw [if_neg c7] at H
      have c7b0 : (a0_4 == a1_4) = false := beq_eq_false_iff_ne.mpr c7
      have c7b1 : (a0_4 != a1_4) = true := bne_iff_ne.mpr c7
      obtain rfl := Option.some.inj H
      go_enter Try.func21, Try.ntmps21
      go_wp2_with (first | ((with_reducible refine gate_dst (N := 2) rfl ?_); refine box_event ?hg (N := 2) ?hd (cs := #[.bool a0_0, .bool a0_1, .int .i64 a0_2, .int .i64 a0_3, .int .i64 a0_4, .slice A0_5 l0_5.length c0_5]) (t := 27) ?hr ?_; (case hd => rfl); (case hg => rfl); (case hr => first | (go_simp; done) | (go_simp; rfl)); intro gb200 hg w15 hbox hb; have n0_ := zzm (zzp (by repeat (first | (with_reducible first | exact HB.out | apply zza | apply zzb | apply zzc) | exact HB.out)) hb); have n1_ := zzm (hbox); have n2_ := zzm ((by rw [hg]; exact (zzo (by repeat (first | (with_reducible first | exact HB.out | apply zza | apply zzb | apply zzc) | exact HB.out))) : w.heap.size ≤ gb200)); have n3_ := zzm ((by rw [hg]; exact (zzo (by repeat (first | (with_reducible first | exact HB.out | apply zza | apply zzb | apply zzc) | exact HB.out))) : w.heap.size ≤ gb200)); clear HB; have HB := n0_; have BK200 := n1_; have GW200 := n2_; have GE200 := n3_; clear n0_ n1_ n2_ n3_ hb hbox hg) | ((with_reducible refine gate_dst (N := 3) rfl ?_); refine box_event ?hg (N := 3) ?hd (cs := #[.bool a1_0, .bool a1_1, .int .i64 a1_2, .int .i64 a1_3, .int .i64 a1_4, .slice A1_5 l1_5.length c1_5]) (t := 27) ?hr ?_; (case hd => rfl); (case hg => rfl); (case hr => first | (go_simp; done) | (go_simp; rfl)); intro gb201 hg w16 hbox hb; have n0_ := zzm (zzh (g := gb200) (o := .cells #[.bool a0_0, .bool a0_1, .int .i64 a0_2, .int .i64 a0_3, .int .i64 a0_4, .slice A0_5 l0_5.length c0_5] 27 (0, 0)) (by (with_reducible repeat (first | refine zzf ?_ _ | refine zzg ?_ | refine zze ?_ _)); exact BK200.out) hb); have n1_ := zzm (zzp (by repeat (first | (with_reducible first | exact HB.out | apply zza | apply zzb | apply zzc | refine zzd ?_ GE200.out) | exact HB.out)) hb); have n2_ := zzm (hbox); have n3_ := zzm ((by rw [hg]; exact (zzo (by repeat (first | (with_reducible first | exact HB.out | apply zza | apply zzb | apply zzc | refine zzd ?_ GE200.out) | exact HB.out))) : w.heap.size ≤ gb201)); have n4_ := zzm ((by rw [hg]; exact (zzo (by repeat (first | (with_reducible first | exact HB.out | apply zza | apply zzb | apply zzc | refine zzd ?_ GE200.out) | exact HB.out))) : w.heap.size ≤ gb201)); have n5_ := zzm ((by rw [hg]; exact Nat.ne_of_lt (blk_lt (g := gb200) (o := .cells #[.bool a0_0, .bool a0_1, .int .i64 a0_2, .int .i64 a0_3, .int .i64 a0_4, .slice A0_5 l0_5.length c0_5] 27 (0, 0)) (by (with_reducible repeat (first | refine zzf ?_ _ | refine zzg ?_ | refine zze ?_ _)); exact BK200.out)) : gb200 ≠ gb201)); have n6_ := zzm ((by rw [hg]; exact Nat.ne_of_gt (blk_lt (g := gb200) (o := .cells #[.bool a0_0, .bool a0_1, .int .i64 a0_2, .int .i64 a0_3, .int .i64 a0_4, .slice A0_5 l0_5.length c0_5] 27 (0, 0)) (by (with_reducible repeat (first | refine zzf ?_ _ | refine zzg ?_ | refine zze ?_ _)); exact BK200.out)) : gb201 ≠ gb200)); clear BK200 HB; have BK200 := n0_; have HB := n1_; have BK201 := n2_; have GW201 := n3_; have GE201 := n4_; have NB200_201 := n5_; have NB201_200 := n6_; clear n0_ n1_ n2_ n3_ n4_ n5_ n6_ hb hbox hg; have hnb17 := NB200_201.out; have hnc17 := NB201_200.out; obtain ⟨hcz18_0, hcz18_1, hcz18_2, hcz18_3, hcz18_4, hcz18_5, hfz18_0, hfz18_1, hfz18_2, hfz18_3, hfz18_4, hfz18_5⟩ := zzc6 BK200.out; obtain ⟨hcz19_0, hcz19_1, hcz19_2, hcz19_3, hcz19_4, hcz19_5, hfz19_0, hfz19_1, hfz19_2, hfz19_3, hfz19_4, hfz19_5⟩ := zzc6 BK201.out))
      go_ret
      exact ⟨by first | rfl | (simp [errW_none, errW_some] <;> rfl) | (simp [*, errW_none, errW_some] <;> rfl), by repeat (first | (with_reducible first | exact HB.out | apply zza | apply zzb | apply zzc | refine zzd ?_ GE200.out | refine zzd ?_ GE201.out) | exact HB.out)⟩
    ·
     rw [if_neg c6] at H
     have c6b0 : (a0_3 == a1_3) = false := beq_eq_false_iff_ne.mpr c6
     have c6b1 : (a0_3 != a1_3) = true := bne_iff_ne.mpr c6
     obtain rfl := Option.some.inj H
     go_enter Try.func21, Try.ntmps21
     go_wp2_with (first | ((with_reducible refine gate_dst (N := 2) rfl ?_); refine box_event ?hg (N := 2) ?hd (cs := #[.bool a0_0, .bool a0_1, .int .i64 a0_2, .int .i64 a0_3, .int .i64 a0_4, .slice A0_5 l0_5.length c0_5]) (t := 27) ?hr ?_; (case hd => rfl); (case hg => rfl); (case hr => first | (go_simp; done) | (go_simp; rfl)); intro gb200 hg w20 hbox hb; have n0_ := zzm (zzp (by repeat (first | (with_reducible first | exact HB.out | apply zza | apply zzb | apply zzc) | exact HB.out)) hb); have n1_ := zzm (hbox); have n2_ := zzm ((by rw [hg]; exact (zzo (by repeat (first | (with_reducible first | exact HB.out | apply zza | apply zzb | apply zzc) | exact HB.out))) : w.heap.size ≤ gb200)); have n3_ := zzm ((by rw [hg]; exact (zzo (by repeat (first | (with_reducible first | exact HB.out | apply zza | apply zzb | apply zzc) | exact HB.out))) : w.heap.size ≤ gb200)); clear HB; have HB := n0_; have BK200 := n1_; have GW200 := n2_; have GE200 := n3_; clear n0_ n1_ n2_ n3_ hb hbox hg) | ((with_reducible refine gate_dst (N := 3) rfl ?_); refine box_event ?hg (N := 3) ?hd (cs := #[.bool a1_0, .bool a1_1, .int .i64 a1_2, .int .i64 a1_3, .int .i64 a1_4, .slice A1_5 l1_5.length c1_5]) (t := 27) ?hr ?_; (case hd => rfl); (case hg => rfl); (case hr => first | (go_simp; done) | (go_simp; rfl)); intro gb201 hg w21 hbox hb; have n0_ := zzm (zzh (g := gb200) (o := .cells #[.bool a0_0, .bool a0_1, .int .i64 a0_2, .int .i64 a0_3, .int .i64 a0_4, .slice A0_5 l0_5.length c0_5] 27 (0, 0)) (by (with_reducible repeat (first | refine zzf ?_ _ | refine zzg ?_ | refine zze ?_ _)); exact BK200.out) hb); have n1_ := zzm (zzp (by repeat (first | (with_reducible first | exact HB.out | apply zza | apply zzb | apply zzc | refine zzd ?_ GE200.out) | exact HB.out)) hb); have n2_ := zzm (hbox); have n3_ := zzm ((by rw [hg]; exact (zzo (by repeat (first | (with_reducible first | exact HB.out | apply zza | apply zzb | apply zzc | refine zzd ?_ GE200.out) | exact HB.out))) : w.heap.size ≤ gb201)); have n4_ := zzm ((by rw [hg]; exact (zzo (by repeat (first | (with_reducible first | exact HB.out | apply zza | apply zzb | apply zzc | refine zzd ?_ GE200.out) | exact HB.out))) : w.heap.size ≤ gb201)); have n5_ := zzm ((by rw [hg]; exact Nat.ne_of_lt (blk_lt (g := gb200) (o := .cells #[.bool a0_0, .bool a0_1, .int .i64 a0_2, .int .i64 a0_3, .int .i64 a0_4, .slice A0_5 l0_5.length c0_5] 27 (0, 0)) (by (with_reducible repeat (first | refine zzf ?_ _ | refine zzg ?_ | refine zze ?_ _)); exact BK200.out)) : gb200 ≠ gb201)); have n6_ := zzm ((by rw [hg]; exact Nat.ne_of_gt (blk_lt (g := gb200) (o := .cells #[.bool a0_0, .bool a0_1, .int .i64 a0_2, .int .i64 a0_3, .int .i64 a0_4, .slice A0_5 l0_5.length c0_5] 27 (0, 0)) (by (with_reducible repeat (first | refine zzf ?_ _ | refine zzg ?_ | refine zze ?_ _)); exact BK200.out)) : gb201 ≠ gb200)); clear BK200 HB; have BK200 := n0_; have HB := n1_; have BK201 := n2_; have GW201 := n3_; have GE201 := n4_; have NB200_201 := n5_; have NB201_200 := n6_; clear n0_ n1_ n2_ n3_ n4_ n5_ n6_ hb hbox hg; have hnb22 := NB200_201.out; have hnc22 := NB201_200.out; obtain ⟨hcz23_0, hcz23_1, hcz23_2, hcz23_3, hcz23_4, hcz23_5, hfz23_0, hfz23_1, hfz23_2, hfz23_3, hfz23_4, hfz23_5⟩ := zzc6 BK200.out; obtain ⟨hcz24_0, hcz24_1, hcz24_2, hcz24_3, hcz24_4, hcz24_5, hfz24_0, hfz24_1, hfz24_2, hfz24_3, hfz24_4, hfz24_5⟩ := zzc6 BK201.out))
     go_ret
     exact ⟨by first | rfl | (simp [errW_none, errW_some] <;> rfl) | (simp [*, errW_none, errW_some] <;> rfl), by repeat (first | (with_reducible first | exact HB.out | apply zza | apply zzb | apply zzc | refine zzd ?_ GE200.out | refine zzd ?_ GE201.out) | exact HB.out)⟩
   ·
    rw [if_neg c5] at H
    have c5b0 : (a0_2 == a1_2) = false := beq_eq_false_iff_ne.mpr c5
    have c5b1 : (a0_2 != a1_2) = true := bne_iff_ne.mpr c5
    obtain rfl := Option.some.inj H
    go_enter Try.func21, Try.ntmps21
    go_wp2_with (first | ((with_reducible refine gate_dst (N := 2) rfl ?_); refine box_event ?hg (N := 2) ?hd (cs := #[.bool a0_0, .bool a0_1, .int .i64 a0_2, .int .i64 a0_3, .int .i64 a0_4, .slice A0_5 l0_5.length c0_5]) (t := 27) ?hr ?_; (case hd => rfl); (case hg => rfl); (case hr => first | (go_simp; done) | (go_simp; rfl)); intro gb200 hg w25 hbox hb; have n0_ := zzm (zzp (by repeat (first | (with_reducible first | exact HB.out | apply zza | apply zzb | apply zzc) | exact HB.out)) hb); have n1_ := zzm (hbox); have n2_ := zzm ((by rw [hg]; exact (zzo (by repeat (first | (with_reducible first | exact HB.out | apply zza | apply zzb | apply zzc) | exact HB.out))) : w.heap.size ≤ gb200)); have n3_ := zzm ((by rw [hg]; exact (zzo (by repeat (first | (with_reducible first | exact HB.out | apply zza | apply zzb | apply zzc) | exact HB.out))) : w.heap.size ≤ gb200)); clear HB; have HB := n0_; have BK200 := n1_; have GW200 := n2_; have GE200 := n3_; clear n0_ n1_ n2_ n3_ hb hbox hg) | ((with_reducible refine gate_dst (N := 3) rfl ?_); refine box_event ?hg (N := 3) ?hd (cs := #[.bool a1_0, .bool a1_1, .int .i64 a1_2, .int .i64 a1_3, .int .i64 a1_4, .slice A1_5 l1_5.length c1_5]) (t := 27) ?hr ?_; (case hd => rfl); (case hg => rfl); (case hr => first | (go_simp; done) | (go_simp; rfl)); intro gb201 hg w26 hbox hb; have n0_ := zzm (zzh (g := gb200) (o := .cells #[.bool a0_0, .bool a0_1, .int .i64 a0_2, .int .i64 a0_3, .int .i64 a0_4, .slice A0_5 l0_5.length c0_5] 27 (0, 0)) (by (with_reducible repeat (first | refine zzf ?_ _ | refine zzg ?_ | refine zze ?_ _)); exact BK200.out) hb); have n1_ := zzm (zzp (by repeat (first | (with_reducible first | exact HB.out | apply zza | apply zzb | apply zzc | refine zzd ?_ GE200.out) | exact HB.out)) hb); have n2_ := zzm (hbox); have n3_ := zzm ((by rw [hg]; exact (zzo (by repeat (first | (with_reducible first | exact HB.out | apply zza | apply zzb | apply zzc | refine zzd ?_ GE200.out) | exact HB.out))) : w.heap.size ≤ gb201)); have n4_ := zzm ((by rw [hg]; exact (zzo (by repeat (first | (with_reducible first | exact HB.out | apply zza | apply zzb | apply zzc | refine zzd ?_ GE200.out) | exact HB.out))) : w.heap.size ≤ gb201)); have n5_ := zzm ((by rw [hg]; exact Nat.ne_of_lt (blk_lt (g := gb200) (o := .cells #[.bool a0_0, .bool a0_1, .int .i64 a0_2, .int .i64 a0_3, .int .i64 a0_4, .slice A0_5 l0_5.length c0_5] 27 (0, 0)) (by (with_reducible repeat (first | refine zzf ?_ _ | refine zzg ?_ | refine zze ?_ _)); exact BK200.out)) : gb200 ≠ gb201)); have n6_ := zzm ((by rw [hg]; exact Nat.ne_of_gt (blk_lt (g := gb200) (o := .cells #[.bool a0_0, .bool a0_1, .int .i64 a0_2, .int .i64 a0_3, .int .i64 a0_4, .slice A0_5 l0_5.length c0_5] 27 (0, 0)) (by (with_reducible repeat (first | refine zzf ?_ _ | refine zzg ?_ | refine zze ?_ _)); exact BK200.out)) : gb201 ≠ gb200)); clear BK200 HB; have BK200 := n0_; have HB := n1_; have BK201 := n2_; have GW201 := n3_; have GE201 := n4_; have NB200_201 := n5_; have NB201_200 := n6_; clear n0_ n1_ n2_ n3_ n4_ n5_ n6_ hb hbox hg; have hnb27 := NB200_201.out; have hnc27 := NB201_200.out; obtain ⟨hcz28_0, hcz28_1, hcz28_2, hcz28_3, hcz28_4, hcz28_5, hfz28_0, hfz28_1, hfz28_2, hfz28_3, hfz28_4, hfz28_5⟩ := zzc6 BK200.out; obtain ⟨hcz29_0, hcz29_1, hcz29_2, hcz29_3, hcz29_4, hcz29_5, hfz29_0, hfz29_1, hfz29_2, hfz29_3, hfz29_4, hfz29_5⟩ := zzc6 BK201.out))
    go_ret
    exact ⟨by first | rfl | (simp [errW_none, errW_some] <;> rfl) | (simp [*, errW_none, errW_some] <;> rfl), by repeat (first | (with_reducible first | exact HB.out | apply zza | apply zzb | apply zzc | refine zzd ?_ GE200.out | refine zzd ?_ GE201.out) | exact HB.out)⟩
  ·
   rw [if_neg c4] at H
   have c4b0 : (a0_1 == a1_1) = false := by simpa using c4
   (try (have c4b1 : decide (a0_1 = a1_1) = false := by simpa using c4))
   (try (have c4b2 : (a0_1 == a1_1) = false := by simpa using c4))
   (try (have c4b3 : ¬ (a0_1 = a1_1) := by simpa using c4))
   clear c4
   obtain rfl := Option.some.inj H
   go_enter Try.func21, Try.ntmps21
   go_wp2_with (first | ((with_reducible refine gate_dst (N := 2) rfl ?_); refine box_event ?hg (N := 2) ?hd (cs := #[.bool a0_0, .bool a0_1, .int .i64 a0_2, .int .i64 a0_3, .int .i64 a0_4, .slice A0_5 l0_5.length c0_5]) (t := 27) ?hr ?_; (case hd => rfl); (case hg => rfl); (case hr => first | (go_simp; done) | (go_simp; rfl)); intro gb200 hg w30 hbox hb; have n0_ := zzm (zzp (by repeat (first | (with_reducible first | exact HB.out | apply zza | apply zzb | apply zzc) | exact HB.out)) hb); have n1_ := zzm (hbox); have n2_ := zzm ((by rw [hg]; exact (zzo (by repeat (first | (with_reducible first | exact HB.out | apply zza | apply zzb | apply zzc) | exact HB.out))) : w.heap.size ≤ gb200)); have n3_ := zzm ((by rw [hg]; exact (zzo (by repeat (first | (with_reducible first | exact HB.out | apply zza | apply zzb | apply zzc) | exact HB.out))) : w.heap.size ≤ gb200)); clear HB; have HB := n0_; have BK200 := n1_; have GW200 := n2_; have GE200 := n3_; clear n0_ n1_ n2_ n3_ hb hbox hg) | ((with_reducible refine gate_dst (N := 3) rfl ?_); refine box_event ?hg (N := 3) ?hd (cs := #[.bool a1_0, .bool a1_1, .int .i64 a1_2, .int .i64 a1_3, .int .i64 a1_4, .slice A1_5 l1_5.length c1_5]) (t := 27) ?hr ?_; (case hd => rfl); (case hg => rfl); (case hr => first | (go_simp; done) | (go_simp; rfl)); intro gb201 hg w31 hbox hb; have n0_ := zzm (zzh (g := gb200) (o := .cells #[.bool a0_0, .bool a0_1, .int .i64 a0_2, .int .i64 a0_3, .int .i64 a0_4, .slice A0_5 l0_5.length c0_5] 27 (0, 0)) (by (with_reducible repeat (first | refine zzf ?_ _ | refine zzg ?_ | refine zze ?_ _)); exact BK200.out) hb); have n1_ := zzm (zzp (by repeat (first | (with_reducible first | exact HB.out | apply zza | apply zzb | apply zzc | refine zzd ?_ GE200.out) | exact HB.out)) hb); have n2_ := zzm (hbox); have n3_ := zzm ((by rw [hg]; exact (zzo (by repeat (first | (with_reducible first | exact HB.out | apply zza | apply zzb | apply zzc | refine zzd ?_ GE200.out) | exact HB.out))) : w.heap.size ≤ gb201)); have n4_ := zzm ((by rw [hg]; exact (zzo (by repeat (first | (with_reducible first | exact HB.out | apply zza | apply zzb | apply zzc | refine zzd ?_ GE200.out) | exact HB.out))) : w.heap.size ≤ gb201)); have n5_ := zzm ((by rw [hg]; exact Nat.ne_of_lt (blk_lt (g := gb200) (o := .cells #[.bool a0_0, .bool a0_1, .int .i64 a0_2, .int .i64 a0_3, .int .i64 a0_4, .slice A0_5 l0_5.length c0_5] 27 (0, 0)) (by (with_reducible repeat (first | refine zzf ?_ _ | refine zzg ?_ | refine zze ?_ _)); exact BK200.out)) : gb200 ≠ gb201)); have n6_ := zzm ((by rw [hg]; exact Nat.ne_of_gt (blk_lt (g := gb200) (o := .cells #[.bool a0_0, .bool a0_1, .int .i64 a0_2, .int .i64 a0_3, .int .i64 a0_4, .slice A0_5 l0_5.length c0_5] 27 (0, 0)) (by (with_reducible repeat (first | refine zzf ?_ _ | refine zzg ?_ | refine zze ?_ _)); exact BK200.out)) : gb201 ≠ gb200)); clear BK200 HB; have BK200 := n0_; have HB := n1_; have BK201 := n2_; have GW201 := n3_; have GE201 := n4_; have NB200_201 := n5_; have NB201_200 := n6_; clear n0_ n1_ n2_ n3_ n4_ n5_ n6_ hb hbox hg; have hnb32 := NB200_201.out; have hnc32 := NB201_200.out; obtain ⟨hcz33_0, hcz33_1, hcz33_2, hcz33_3, hcz33_4, hcz33_5, hfz33_0, hfz33_1, hfz33_2, hfz33_3, hfz33_4, hfz33_5⟩ := zzc6 BK200.out; obtain ⟨hcz34_0, hcz34_1, hcz34_2, hcz34_3, hcz34_4, hcz34_5, hfz34_0, hfz34_1, hfz34_2, hfz34_3, hfz34_4, hfz34_5⟩ := zzc6 BK201.out))
   go_ret
   exact ⟨by first | rfl | (simp [errW_none, errW_some] <;> rfl) | (simp [*, errW_none, errW_some] <;> rfl), by repeat (first | (with_reducible first | exact HB.out | apply zza | apply zzb | apply zzc | refine zzd ?_ GE200.out | refine zzd ?_ GE201.out) | exact HB.out)⟩
 ·
  rw [if_neg c3] at H
  have c3b0 : (a0_0 == a1_0) = false := by simpa using c3
  (try (have c3b1 : decide (a0_0 = a1_0) = false := by simpa using c3))
  (try (have c3b2 : (a0_0 == a1_0) = false := by simpa using c3))
  (try (have c3b3 : ¬ (a0_0 = a1_0) := by simpa using c3))
  clear c3
  obtain rfl := Option.some.inj H
  go_enter Try.func21, Try.ntmps21
  go_wp2_with (first | ((with_reducible refine gate_dst (N := 2) rfl ?_); refine box_event ?hg (N := 2) ?hd (cs := #[.bool a0_0, .bool a0_1, .int .i64 a0_2, .int .i64 a0_3, .int .i64 a0_4, .slice A0_5 l0_5.length c0_5]) (t := 27) ?hr ?_; (case hd => rfl); (case hg => rfl); (case hr => first | (go_simp; done) | (go_simp; rfl)); intro gb200 hg w35 hbox hb; have n0_ := zzm (zzp (by repeat (first | (with_reducible first | exact HB.out | apply zza | apply zzb | apply zzc) | exact HB.out)) hb); have n1_ := zzm (hbox); have n2_ := zzm ((by rw [hg]; exact (zzo (by repeat (first | (with_reducible first | exact HB.out | apply zza | apply zzb | apply zzc) | exact HB.out))) : w.heap.size ≤ gb200)); have n3_ := zzm ((by rw [hg]; exact (zzo (by repeat (first | (with_reducible first | exact HB.out | apply zza | apply zzb | apply zzc) | exact HB.out))) : w.heap.size ≤ gb200)); clear HB; have HB := n0_; have BK200 := n1_; have GW200 := n2_; have GE200 := n3_; clear n0_ n1_ n2_ n3_ hb hbox hg) | ((with_reducible refine gate_dst (N := 3) rfl ?_); refine box_event ?hg (N := 3) ?hd (cs := #[.bool a1_0, .bool a1_1, .int .i64 a1_2, .int .i64 a1_3, .int .i64 a1_4, .slice A1_5 l1_5.length c1_5]) (t := 27) ?hr ?_; (case hd => rfl); (case hg => rfl); (case hr => first | (go_simp; done) | (go_simp; rfl)); intro gb201 hg w36 hbox hb; have n0_ := zzm (zzh (g := gb200) (o := .cells #[.bool a0_0, .bool a0_1, .int .i64 a0_2, .int .i64 a0_3, .int .i64 a0_4, .slice A0_5 l0_5.length c0_5] 27 (0, 0)) (by (with_reducible repeat (first | refine zzf ?_ _ | refine zzg ?_ | refine zze ?_ _)); exact BK200.out) hb); have n1_ := zzm (zzp (by repeat (first | (with_reducible first | exact HB.out | apply zza | apply zzb | apply zzc | refine zzd ?_ GE200.out) | exact HB.out)) hb); have n2_ := zzm (hbox); have n3_ := zzm ((by rw [hg]; exact (zzo (by repeat (first | (with_reducible first | exact HB.out | apply zza | apply zzb | apply zzc | refine zzd ?_ GE200.out) | exact HB.out))) : w.heap.size ≤ gb201)); have n4_ := zzm ((by rw [hg]; exact (zzo (by repeat (first | (with_reducible first | exact HB.out | apply zza | apply zzb | apply zzc | refine zzd ?_ GE200.out) | exact HB.out))) : w.heap.size ≤ gb201)); have n5_ := zzm ((by rw [hg]; exact Nat.ne_of_lt (blk_lt (g := gb200) (o := .cells #[.bool a0_0, .bool a0_1, .int .i64 a0_2, .int .i64 a0_3, .int .i64 a0_4, .slice A0_5 l0_5.length c0_5] 27 (0, 0)) (by (with_reducible repeat (first | refine zzf ?_ _ | refine zzg ?_ | refine zze ?_ _)); exact BK200.out)) : gb200 ≠ gb201)); have n6_ := zzm ((by rw [hg]; exact Nat.ne_of_gt (blk_lt (g := gb200) (o := .cells #[.bool a0_0, .bool a0_1, .int .i64 a0_2, .int .i64 a0_3, .int .i64 a0_4, .slice A0_5 l0_5.length c0_5] 27 (0, 0)) (by (with_reducible repeat (first | refine zzf ?_ _ | refine zzg ?_ | refine zze ?_ _)); exact BK200.out)) : gb201 ≠ gb200)); clear BK200 HB; have BK200 := n0_; have HB := n1_; have BK201 := n2_; have GW201 := n3_; have GE201 := n4_; have NB200_201 := n5_; have NB201_200 := n6_; clear n0_ n1_ n2_ n3_ n4_ n5_ n6_ hb hbox hg; have hnb37 := NB200_201.out; have hnc37 := NB201_200.out; obtain ⟨hcz38_0, hcz38_1, hcz38_2, hcz38_3, hcz38_4, hcz38_5, hfz38_0, hfz38_1, hfz38_2, hfz38_3, hfz38_4, hfz38_5⟩ := zzc6 BK200.out; obtain ⟨hcz39_0, hcz39_1, hcz39_2, hcz39_3, hcz39_4, hcz39_5, hfz39_0, hfz39_1, hfz39_2, hfz39_3, hfz39_4, hfz39_5⟩ := zzc6 BK201.out))
  go_ret
  exact ⟨by first | rfl | (simp [errW_none, errW_some] <;> rfl) | (simp [*, errW_none, errW_some] <;> rfl), by repeat (first | (with_reducible first | exact HB.out | apply zza | apply zzb | apply zzc | refine zzd ?_ GE200.out | refine zzd ?_ GE201.out) | exact HB.out)⟩
end Go.Proofs.Yticpnjhkdfdkkaa.T
namespace Go.Proofs.Yticpnjhkdfdkkaa.T
open Go.RowKit Go.Proofs.YticpnjhkdfdkkaaW.PrintWords Go.Proofs.YticpnjhkdfdkkaaW.PrintLast Go.Proofs.YticpnjhkdfdkkaaW.PrintMore

set_option linter.unusedVariables false
set_option linter.unusedSimpArgs false
def laws_FnMarkBatch.j0 : Nat → Int → Int → Int → Bool → Bool → Bool → Bool → Bool → Int → Int → Int → List (S34) → Bool → Bool → Int → Int → Int → List (S34) → Option (Bool)
 | 0, _, _, _, _, _, _, _, _, _, _, _, _, _, _, _, _, _, _ => none
 | k + 1, x3, x4, x5, x9, x11, x53, x218000, x218001, x218002, x218003, x218004, x218005, x228000, x228001, x228002, x228003, x228004, x228005 => if x53 = true then (if (x9 == x11) = true then ((laws_sameBatch.f k x218000 x218001 x218002 x218003 x218004 x218005 x228000 x228001 x228002 x228003 x228004 x228005).bind fun t229 => (some t229)) else (some false)) else ((impl_BatchValid.f k x218000 x218001 x218002 x218003 x218004 x218005).bind fun t230 => (if t230 = true then (if x218001 = true then (if x218002 = x3 then (if x218003 = x4 then (if (x218005.length : Int) = 1 then (if 0 < (x218005.length : Int) then (some (((rd_T34 x218005 0).f0) == x5)) else (none)) else (some false)) else (some false)) else (some false)) else (some false)) else (some false)))
def laws_FnMarkBatch.f (k : Nat) (l0 : List Int) : Option (Bool) := if (l0.length : Int) > 1048576 then (some true) else ((spec_DrawMarkBatch.f k l0).bind fun bt203 => ((impl_MarkBatch.f k bt203.1 bt203.2.1 bt203.2.2.1 bt203.2.2.2.1 bt203.2.2.2.2).bind fun bt208 => ((spec_MarkBatch.f k bt203.1 bt203.2.1 bt203.2.2.1 bt203.2.2.2.1 bt203.2.2.2.2).bind fun bt218 => (if (bt208.2.2.2.2.2.2 != bt218.2.2.2.2.2.2) = true then (laws_FnMarkBatch.j0 k bt203.1 bt203.2.1 bt203.2.2.1 bt208.2.2.2.2.2.2 bt218.2.2.2.2.2.2 true bt208.1 bt208.2.1 bt208.2.2.1 bt208.2.2.2.1 bt208.2.2.2.2.1 bt208.2.2.2.2.2.1 bt218.1 bt218.2.1 bt218.2.2.1 bt218.2.2.2.1 bt218.2.2.2.2.1 bt218.2.2.2.2.2.1) else ((laws_sameBatch.f k bt208.1 bt208.2.1 bt208.2.2.1 bt208.2.2.2.1 bt208.2.2.2.2.1 bt208.2.2.2.2.2.1 bt218.1 bt218.2.1 bt218.2.2.1 bt218.2.2.2.1 bt218.2.2.2.2.1 bt218.2.2.2.2.2.1).bind fun t228 => (if t228 = true then (laws_FnMarkBatch.j0 k bt203.1 bt203.2.1 bt203.2.2.1 bt208.2.2.2.2.2.2 bt218.2.2.2.2.2.2 (!bt208.2.2.2.2.2.2) bt208.1 bt208.2.1 bt208.2.2.1 bt208.2.2.2.1 bt208.2.2.2.2.1 bt208.2.2.2.2.2.1 bt218.1 bt218.2.1 bt218.2.2.1 bt218.2.2.2.1 bt218.2.2.2.2.1 bt218.2.2.2.2.2.1) else (laws_FnMarkBatch.j0 k bt203.1 bt203.2.1 bt203.2.2.1 bt208.2.2.2.2.2.2 bt218.2.2.2.2.2.2 true bt208.1 bt208.2.1 bt208.2.2.1 bt208.2.2.2.1 bt208.2.2.2.2.1 bt208.2.2.2.2.2.1 bt218.1 bt218.2.1 bt218.2.2.1 bt218.2.2.2.1 bt218.2.2.2.2.1 bt218.2.2.2.2.2.1)))))))
set_option maxHeartbeats 8000000 in
set_option maxRecDepth 100000 in
theorem laws_FnMarkBatch.calls (k : Nat) (A0 : Option Addr) (c0 : Nat) (l0 : List Int) (r : Bool) (w : World) (hr0 : Kd.C (Kd.int .u8) w A0 l0.length l0) (hc0 : l0.length ≤ c0) (h : laws_FnMarkBatch.f k l0 = some r) :
  Calls Try.prog 3 #[.slice A0 l0.length c0] w fun e w' => e = .returned (.bool r) ∧ Below w.heap.size w w' := by
 have hu27 := Try.underlying27
 have HR0 := zzm hr0
 have HC0 := zzm hc0
 clear hr0 hc0
 have HB := zzm (Below.refl w.heap.size w)
 have H : (if (l0.length : Int) > 1048576 then (some true) else ((spec_DrawMarkBatch.f k l0).bind fun bt203 => ((impl_MarkBatch.f k bt203.1 bt203.2.1 bt203.2.2.1 bt203.2.2.2.1 bt203.2.2.2.2).bind fun bt208 => ((spec_MarkBatch.f k bt203.1 bt203.2.1 bt203.2.2.1 bt203.2.2.2.1 bt203.2.2.2.2).bind fun bt218 => (if (bt208.2.2.2.2.2.2 != bt218.2.2.2.2.2.2) = true then (laws_FnMarkBatch.j0 k bt203.1 bt203.2.1 bt203.2.2.1 bt208.2.2.2.2.2.2 bt218.2.2.2.2.2.2 true bt208.1 bt208.2.1 bt208.2.2.1 bt208.2.2.2.1 bt208.2.2.2.2.1 bt208.2.2.2.2.2.1 bt218.1 bt218.2.1 bt218.2.2.1 bt218.2.2.2.1 bt218.2.2.2.2.1 bt218.2.2.2.2.2.1) else ((laws_sameBatch.f k bt208.1 bt208.2.1 bt208.2.2.1 bt208.2.2.2.1 bt208.2.2.2.2.1 bt208.2.2.2.2.2.1 bt218.1 bt218.2.1 bt218.2.2.1 bt218.2.2.2.1 bt218.2.2.2.2.1 bt218.2.2.2.2.2.1).bind fun t228 => (if t228 = true then (laws_FnMarkBatch.j0 k bt203.1 bt203.2.1 bt203.2.2.1 bt208.2.2.2.2.2.2 bt218.2.2.2.2.2.2 (!bt208.2.2.2.2.2.2) bt208.1 bt208.2.1 bt208.2.2.1 bt208.2.2.2.1 bt208.2.2.2.2.1 bt208.2.2.2.2.2.1 bt218.1 bt218.2.1 bt218.2.2.1 bt218.2.2.2.1 bt218.2.2.2.2.1 bt218.2.2.2.2.2.1) else (laws_FnMarkBatch.j0 k bt203.1 bt203.2.1 bt203.2.2.1 bt208.2.2.2.2.2.2 bt218.2.2.2.2.2.2 true bt208.1 bt208.2.1 bt208.2.2.1 bt208.2.2.2.1 bt208.2.2.2.2.1 bt208.2.2.2.2.2.1 bt218.1 bt218.2.1 bt218.2.2.1 bt218.2.2.2.1 bt218.2.2.2.2.1 bt218.2.2.2.2.2.1)))))))) = some r := h
 clear h
 by_cases c2 : (l0.length : Int) > 1048576
 ·
  rw [if_pos c2] at H
  have c2b0 : decide (1048576 < (l0.length : Int)) = true := decide_eq_true c2
  have c2b1 : decide (1048576 < l0.length) = true := decide_eq_true (by omega)
  clear c2
  obtain rfl := Option.some.inj H
  go_enter Try.func3, Try.ntmps3
  go_wp2
  go_ret
  exact ⟨by first | rfl | (simp [errW_none, errW_some] <;> rfl) | (simp [*, errW_none, errW_some] <;> rfl), by repeat (first | (with_reducible first | exact HB.out | apply zza | apply zzb | apply zzc) | exact HB.out)⟩
 ·
  rw [if_neg c2] at H
  have c2b0 : decide (1048576 < (l0.length : Int)) = false := decide_eq_false c2
  have c2b1 : decide (1048576 < l0.length) = false := decide_eq_false (by omega)
  clear c2
  replace H := Option.bind_eq_some_iff.mp H
  obtain ⟨⟨t203, t204, t205, t206, t207⟩, A30, H⟩ := H
  replace H : ((impl_MarkBatch.f k t203 t204 t205 t206 t207).bind fun bt208 => ((spec_MarkBatch.f k t203 t204 t205 t206 t207).bind fun bt218 => (if (bt208.2.2.2.2.2.2 != bt218.2.2.2.2.2.2) = true then (laws_FnMarkBatch.j0 k t203 t204 t205 bt208.2.2.2.2.2.2 bt218.2.2.2.2.2.2 true bt208.1 bt208.2.1 bt208.2.2.1 bt208.2.2.2.1 bt208.2.2.2.2.1 bt208.2.2.2.2.2.1 bt218.1 bt218.2.1 bt218.2.2.1 bt218.2.2.2.1 bt218.2.2.2.2.1 bt218.2.2.2.2.2.1) else ((laws_sameBatch.f k bt208.1 bt208.2.1 bt208.2.2.1 bt208.2.2.2.1 bt208.2.2.2.2.1 bt208.2.2.2.2.2.1 bt218.1 bt218.2.1 bt218.2.2.1 bt218.2.2.2.1 bt218.2.2.2.2.1 bt218.2.2.2.2.2.1).bind fun t228 => (if t228 = true then (laws_FnMarkBatch.j0 k t203 t204 t205 bt208.2.2.2.2.2.2 bt218.2.2.2.2.2.2 (!bt208.2.2.2.2.2.2) bt208.1 bt208.2.1 bt208.2.2.1 bt208.2.2.2.1 bt208.2.2.2.2.1 bt208.2.2.2.2.2.1 bt218.1 bt218.2.1 bt218.2.2.1 bt218.2.2.2.1 bt218.2.2.2.2.1 bt218.2.2.2.2.2.1) else (laws_FnMarkBatch.j0 k t203 t204 t205 bt208.2.2.2.2.2.2 bt218.2.2.2.2.2.2 true bt208.1 bt208.2.1 bt208.2.2.1 bt208.2.2.2.1 bt208.2.2.2.2.1 bt208.2.2.2.2.2.1 bt218.1 bt218.2.1 bt218.2.2.1 bt218.2.2.2.1 bt218.2.2.2.2.1 bt218.2.2.2.2.2.1)))))) = some r := H
  have A3 := zzm A30
  clear A30
  replace H := Option.bind_eq_some_iff.mp H
  obtain ⟨⟨t208, t209, t210, t211, t212, t213, t216⟩, A40, H⟩ := H
  replace H : ((spec_MarkBatch.f k t203 t204 t205 t206 t207).bind fun bt218 => (if (t216 != bt218.2.2.2.2.2.2) = true then (laws_FnMarkBatch.j0 k t203 t204 t205 t216 bt218.2.2.2.2.2.2 true t208 t209 t210 t211 t212 t213 bt218.1 bt218.2.1 bt218.2.2.1 bt218.2.2.2.1 bt218.2.2.2.2.1 bt218.2.2.2.2.2.1) else ((laws_sameBatch.f k t208 t209 t210 t211 t212 t213 bt218.1 bt218.2.1 bt218.2.2.1 bt218.2.2.2.1 bt218.2.2.2.2.1 bt218.2.2.2.2.2.1).bind fun t228 => (if t228 = true then (laws_FnMarkBatch.j0 k t203 t204 t205 t216 bt218.2.2.2.2.2.2 (!t216) t208 t209 t210 t211 t212 t213 bt218.1 bt218.2.1 bt218.2.2.1 bt218.2.2.2.1 bt218.2.2.2.2.1 bt218.2.2.2.2.2.1) else (laws_FnMarkBatch.j0 k t203 t204 t205 t216 bt218.2.2.2.2.2.2 true t208 t209 t210 t211 t212 t213 bt218.1 bt218.2.1 bt218.2.2.1 bt218.2.2.2.1 bt218.2.2.2.2.1 bt218.2.2.2.2.2.1))))) = some r := H
  have A4 := zzm A40
  clear A40
  replace H := Option.bind_eq_some_iff.mp H
  obtain ⟨⟨t218, t219, t220, t221, t222, t223, t226⟩, A50, H⟩ := H
  replace H : (if (t216 != t226) = true then (laws_FnMarkBatch.j0 k t203 t204 t205 t216 t226 true t208 t209 t210 t211 t212 t213 t218 t219 t220 t221 t222 t223) else ((laws_sameBatch.f k t208 t209 t210 t211 t212 t213 t218 t219 t220 t221 t222 t223).bind fun t228 => (if t228 = true then (laws_FnMarkBatch.j0 k t203 t204 t205 t216 t226 (!t216) t208 t209 t210 t211 t212 t213 t218 t219 t220 t221 t222 t223) else (laws_FnMarkBatch.j0 k t203 t204 t205 t216 t226 true t208 t209 t210 t211 t212 t213 t218 t219 t220 t221 t222 t223)))) = some r := H
  have A5 := zzm A50
  clear A50
  have HC6 := zzm H
  clear H
  go_enter Try.func3, Try.ntmps3
  go_upto_region 6 with (first | ((with_reducible refine gate_callee (f := 18) rfl ?_); refine goesL_ (some 17) rfl rfl Try.func18 (by kernel_rfl) rfl #[.slice A0 l0.length c0] rfl (by (try simp only [List.map_toArray, List.map_cons, List.map_nil]); first | done | rfl | (simp only [List.length_drop, List.length_take]; rfl)) ?_; (with_reducible refine (spec_DrawMarkBatch.calls k _ _ l0 t203 t204 t205 t206 t207 _ ?side1 ?side2 A3.out).mono ?_); (case side1 => repeat (first | exact HR0.out | (with_reducible refine Kd.C_alloc ?_ _) | (with_reducible refine Kd.C_drewN ?_ _) | (with_reducible refine Kd.C_drew ?_))); (case side2 => exact HC0.out); rintro e w7 ⟨rfl, hb⟩; refine ⟨_, rfl, ?_⟩; have n0_ := zzm (zzp (by repeat (first | (with_reducible first | exact HB.out | apply zza | apply zzb | apply zzc) | exact HB.out)) hb); clear HB; have HB := n0_; clear n0_; (try clear hb); (try clear hb2); (try clear hk); (try clear hi)) | ((with_reducible refine gate_callee (f := 19) rfl ?_); refine goesL_ (some 29) rfl rfl Try.func19 (by kernel_rfl) rfl #[.int .i64 t203, .int .i64 t204, .int .i64 t205, .int .i64 t206, .bool t207] rfl (by (try simp only [List.map_toArray, List.map_cons, List.map_nil]); first | done | rfl | (simp only [List.length_drop, List.length_take]; rfl)) ?_; (with_reducible refine (impl_MarkBatch.calls k t203 t204 t205 t206 t207 t208 t209 t210 t211 t212 t213 t216 _ A4.out).mono ?_); rintro e w8 ⟨v214, rfl, ho0, hb⟩; refine ⟨_, rfl, ?_⟩; have n0_ := zzm (Kd.N_lower (Kd.N_mono (ok' := fun k_ => True) ho0 (fun k_ hk_ => trivial)) (zzo (by repeat (first | (with_reducible first | exact HB.out | apply zza | apply zzb | apply zzc) | exact HB.out)))); have n1_ := zzm (zzp (by repeat (first | (with_reducible first | exact HB.out | apply zza | apply zzb | apply zzc) | exact HB.out)) hb); clear HB; have HO215 := n0_; have HB := n1_; clear n0_ n1_; (try clear hb); (try clear hb2); (try clear hk); (try clear hi); (try clear ho0)) | ((with_reducible refine gate_dst (N := 8) rfl ?_); (try (refine gate_guard (by rfl) ?_; dsimp only)); refine box_event ?hg (N := 8) ?hd (cs := #[.bool false, .bool false, .int .i64 0, .int .i64 0, .int .i64 0, .slice none 0 0]) (t := 27) ?hr ?_; (case hd => rfl); (case hg => rfl); (case hr => first | (go_simp; done) | (go_simp; rfl)); intro gb217 hg w9 hbox hb; have n0_ := zzm (Kd.N_below (Kd.N_elderB (by (with_reducible repeat (first | apply Kd.N_alloc | apply Kd.N_drewN | apply Kd.N_drew)); exact HO215.out) gb217 (Nat.le_of_eq hg.symm)) hb); have n1_ := zzm (zzp (by repeat (first | (with_reducible first | exact HB.out | apply zza | apply zzb | apply zzc) | exact HB.out)) hb); have n2_ := zzm (hbox); have n3_ := zzm ((by rw [hg]; exact (zzo (by repeat (first | (with_reducible first | exact HB.out | apply zza | apply zzb | apply zzc) | exact HB.out))) : w.heap.size ≤ gb217)); have n4_ := zzm ((by rw [hg]; exact (zzo (by repeat (first | (with_reducible first | exact HB.out | apply zza | apply zzb | apply zzc) | exact HB.out))) : w.heap.size ≤ gb217)); clear HO215 HB; have HO215 := n0_; have HB := n1_; have BK217 := n2_; have GW217 := n3_; have GE217 := n4_; clear n0_ n1_ n2_ n3_ n4_ hb hbox hg; obtain ⟨hcz10_0, hcz10_1, hcz10_2, hcz10_3, hcz10_4, hcz10_5, hfz10_0, hfz10_1, hfz10_2, hfz10_3, hfz10_4, hfz10_5⟩ := zzc6 BK217.out; obtain ⟨Ao11, co11, eo11⟩ := Kd.N_slice HO215.out; subst eo11) | ((with_reducible refine gate_callee (f := 20) rfl ?_); refine goesL_ (some 38) rfl rfl Try.func20 (by kernel_rfl) rfl #[.int .i64 t203, .int .i64 t204, .int .i64 t205, .int .i64 t206, .bool t207] rfl (by (try simp only [List.map_toArray, List.map_cons, List.map_nil]); first | done | rfl | (simp only [List.length_drop, List.length_take]; rfl)) ?_; (with_reducible refine (spec_MarkBatch.calls k t203 t204 t205 t206 t207 t218 t219 t220 t221 t222 t223 t226 _ A5.out).mono ?_); rintro e w12 ⟨v224, rfl, ho0, hb⟩; refine ⟨_, rfl, ?_⟩; have n0_ := zzm (Kd.N_elder' (by (with_reducible repeat (first | apply Kd.N_alloc | apply Kd.N_drewN | apply Kd.N_drew)); exact (Kd.N_mono (Kd.N_far (p := ⟨gb217, 5, none⟩) (Kd.N_far (p := ⟨gb217, 4, none⟩) (Kd.N_far (p := ⟨gb217, 3, none⟩) (Kd.N_far (p := ⟨gb217, 2, none⟩) (Kd.N_far (p := ⟨gb217, 1, none⟩) (Kd.N_far (p := ⟨gb217, 0, none⟩) (Kd.N_mono HO215.out (fun k_ hk => (⟨hk, hk.2⟩ : _ ∧ k_ ≠ gb217))) (fun _ hk => hk.2) (.bool t208)) (fun _ hk => hk.2) (.bool t209)) (fun _ hk => hk.2) (.int .i64 t210)) (fun _ hk => hk.2) (.int .i64 t211)) (fun _ hk => hk.2) (.int .i64 t212)) (fun _ hk => hk.2) (.slice Ao11 t213.length co11)) (fun _ h_ => h_.1))) (Kd.N_base ho0) hb); have n1_ := zzm (Kd.N_lower (Kd.N_mono (ok' := fun k_ => some k_ ≠ (.slice Ao11 t213.length co11 : Value).ownBlock ∧ k_ ≠ gb217) ho0 (fun k_ hk_ => ⟨(Kd.fresh' (Kd.N_lt (by (with_reducible repeat (first | apply Kd.N_alloc | apply Kd.N_drewN | apply Kd.N_drew)); exact (Kd.N_mono (Kd.N_far (p := ⟨gb217, 5, none⟩) (Kd.N_far (p := ⟨gb217, 4, none⟩) (Kd.N_far (p := ⟨gb217, 3, none⟩) (Kd.N_far (p := ⟨gb217, 2, none⟩) (Kd.N_far (p := ⟨gb217, 1, none⟩) (Kd.N_far (p := ⟨gb217, 0, none⟩) (Kd.N_mono HO215.out (fun k_ hk => (⟨hk, hk.2⟩ : _ ∧ k_ ≠ gb217))) (fun _ hk => hk.2) (.bool t208)) (fun _ hk => hk.2) (.bool t209)) (fun _ hk => hk.2) (.int .i64 t210)) (fun _ hk => hk.2) (.int .i64 t211)) (fun _ hk => hk.2) (.int .i64 t212)) (fun _ hk => hk.2) (.slice Ao11 t213.length co11)) (fun _ h_ => h_.1)))) k_ hk_), (Kd.freshB (g := gb217) (o := .cells #[.bool t208, .bool t209, .int .i64 t210, .int .i64 t211, .int .i64 t212, .slice Ao11 t213.length co11] 27 (0, 0)) (by (with_reducible repeat (first | refine zzf ?_ _ | refine zzg ?_ | refine zze ?_ _)); refine zzi (cs := #[.bool t208, .bool t209, .int .i64 t210, .int .i64 t211, .int .i64 t212, .slice none 0 0]) ?_ 5 _ rfl; (with_reducible repeat (first | refine zzf ?_ _ | refine zzg ?_ | refine zze ?_ _)); refine zzi (cs := #[.bool t208, .bool t209, .int .i64 t210, .int .i64 t211, .int .i64 0, .slice none 0 0]) ?_ 4 _ rfl; (with_reducible repeat (first | refine zzf ?_ _ | refine zzg ?_ | refine zze ?_ _)); refine zzi (cs := #[.bool t208, .bool t209, .int .i64 t210, .int .i64 0, .int .i64 0, .slice none 0 0]) ?_ 3 _ rfl; (with_reducible repeat (first | refine zzf ?_ _ | refine zzg ?_ | refine zze ?_ _)); refine zzi (cs := #[.bool t208, .bool t209, .int .i64 0, .int .i64 0, .int .i64 0, .slice none 0 0]) ?_ 2 _ rfl; (with_reducible repeat (first | refine zzf ?_ _ | refine zzg ?_ | refine zze ?_ _)); refine zzi (cs := #[.bool t208, .bool false, .int .i64 0, .int .i64 0, .int .i64 0, .slice none 0 0]) ?_ 1 _ rfl; (with_reducible repeat (first | refine zzf ?_ _ | refine zzg ?_ | refine zze ?_ _)); refine zzi (cs := #[.bool false, .bool false, .int .i64 0, .int .i64 0, .int .i64 0, .slice none 0 0]) ?_ 0 _ rfl; (with_reducible repeat (first | refine zzf ?_ _ | refine zzg ?_ | refine zze ?_ _)); exact BK217.out) k_ hk_)⟩)) (zzo (by repeat (first | (with_reducible first | exact HB.out | apply zza | apply zzb | apply zzc | refine zzd ?_ GE217.out) | exact HB.out)))); have n2_ := zzm (zzh (g := gb217) (o := .cells #[.bool t208, .bool t209, .int .i64 t210, .int .i64 t211, .int .i64 t212, .slice Ao11 t213.length co11] 27 (0, 0)) (by (with_reducible repeat (first | refine zzf ?_ _ | refine zzg ?_ | refine zze ?_ _)); refine zzi (cs := #[.bool t208, .bool t209, .int .i64 t210, .int .i64 t211, .int .i64 t212, .slice none 0 0]) ?_ 5 _ rfl; (with_reducible repeat (first | refine zzf ?_ _ | refine zzg ?_ | refine zze ?_ _)); refine zzi (cs := #[.bool t208, .bool t209, .int .i64 t210, .int .i64 t211, .int .i64 0, .slice none 0 0]) ?_ 4 _ rfl; (with_reducible repeat (first | refine zzf ?_ _ | refine zzg ?_ | refine zze ?_ _)); refine zzi (cs := #[.bool t208, .bool t209, .int .i64 t210, .int .i64 0, .int .i64 0, .slice none 0 0]) ?_ 3 _ rfl; (with_reducible repeat (first | refine zzf ?_ _ | refine zzg ?_ | refine zze ?_ _)); refine zzi (cs := #[.bool t208, .bool t209, .int .i64 0, .int .i64 0, .int .i64 0, .slice none 0 0]) ?_ 2 _ rfl; (with_reducible repeat (first | refine zzf ?_ _ | refine zzg ?_ | refine zze ?_ _)); refine zzi (cs := #[.bool t208, .bool false, .int .i64 0, .int .i64 0, .int .i64 0, .slice none 0 0]) ?_ 1 _ rfl; (with_reducible repeat (first | refine zzf ?_ _ | refine zzg ?_ | refine zze ?_ _)); refine zzi (cs := #[.bool false, .bool false, .int .i64 0, .int .i64 0, .int .i64 0, .slice none 0 0]) ?_ 0 _ rfl; (with_reducible repeat (first | refine zzf ?_ _ | refine zzg ?_ | refine zze ?_ _)); exact BK217.out) hb); have n3_ := zzm (zzp (by repeat (first | (with_reducible first | exact HB.out | apply zza | apply zzb | apply zzc | refine zzd ?_ GE217.out) | exact HB.out)) hb); clear HO215 BK217 HB; have HO215 := n0_; have HO225 := n1_; have BK217 := n2_; have HB := n3_; clear n0_ n1_ n2_ n3_; (try clear hb); (try clear hb2); (try clear hk); (try clear hi); (try clear ho0)) | ((with_reducible refine gate_dst (N := 10) rfl ?_); (try (refine gate_guard (by rfl) ?_; dsimp only)); refine box_event ?hg (N := 10) ?hd (cs := #[.bool false, .bool false, .int .i64 0, .int .i64 0, .int .i64 0, .slice none 0 0]) (t := 27) ?hr ?_; (case hd => rfl); (case hg => rfl); (case hr => first | (go_simp; done) | (go_simp; rfl)); intro gb227 hg w13 hbox hb; have n0_ := zzm (Kd.N_below (Kd.N_elderB (by (with_reducible repeat (first | apply Kd.N_alloc | apply Kd.N_drewN | apply Kd.N_drew)); exact HO215.out) gb227 (Nat.le_of_eq hg.symm)) hb); have n1_ := zzm (Kd.N_below (Kd.N_elderB (by (with_reducible repeat (first | apply Kd.N_alloc | apply Kd.N_drewN | apply Kd.N_drew)); exact HO225.out) gb227 (Nat.le_of_eq hg.symm)) hb); have n2_ := zzm (zzh (g := gb217) (o := .cells #[.bool t208, .bool t209, .int .i64 t210, .int .i64 t211, .int .i64 t212, .slice Ao11 t213.length co11] 27 (0, 0)) (by (with_reducible repeat (first | refine zzf ?_ _ | refine zzg ?_ | refine zze ?_ _)); exact BK217.out) hb); have n3_ := zzm (zzp (by repeat (first | (with_reducible first | exact HB.out | apply zza | apply zzb | apply zzc | refine zzd ?_ GE217.out) | exact HB.out)) hb); have n4_ := zzm (hbox); have n5_ := zzm ((by rw [hg]; exact (zzo (by repeat (first | (with_reducible first | exact HB.out | apply zza | apply zzb | apply zzc | refine zzd ?_ GE217.out) | exact HB.out))) : w.heap.size ≤ gb227)); have n6_ := zzm ((by rw [hg]; exact (zzo (by repeat (first | (with_reducible first | exact HB.out | apply zza | apply zzb | apply zzc | refine zzd ?_ GE217.out) | exact HB.out))) : w.heap.size ≤ gb227)); have n7_ := zzm ((by rw [hg]; exact Nat.ne_of_lt (blk_lt (g := gb217) (o := .cells #[.bool t208, .bool t209, .int .i64 t210, .int .i64 t211, .int .i64 t212, .slice Ao11 t213.length co11] 27 (0, 0)) (by (with_reducible repeat (first | refine zzf ?_ _ | refine zzg ?_ | refine zze ?_ _)); exact BK217.out)) : gb217 ≠ gb227)); have n8_ := zzm ((by rw [hg]; exact Nat.ne_of_gt (blk_lt (g := gb217) (o := .cells #[.bool t208, .bool t209, .int .i64 t210, .int .i64 t211, .int .i64 t212, .slice Ao11 t213.length co11] 27 (0, 0)) (by (with_reducible repeat (first | refine zzf ?_ _ | refine zzg ?_ | refine zze ?_ _)); exact BK217.out)) : gb227 ≠ gb217)); clear HO215 HO225 BK217 HB; have HO215 := n0_; have HO225 := n1_; have BK217 := n2_; have HB := n3_; have BK227 := n4_; have GW227 := n5_; have GE227 := n6_; have NB217_227 := n7_; have NB227_217 := n8_; clear n0_ n1_ n2_ n3_ n4_ n5_ n6_ n7_ n8_ hb hbox hg; have hnb14 := NB227_217.out; have hnc14 := NB217_227.out; obtain ⟨hcz15_0, hcz15_1, hcz15_2, hcz15_3, hcz15_4, hcz15_5, hfz15_0, hfz15_1, hfz15_2, hfz15_3, hfz15_4, hfz15_5⟩ := zzc6 BK227.out; obtain ⟨Ao16, co16, eo16⟩ := Kd.N_slice HO225.out; subst eo16))
  (try simp only [Act.put, zzq, zzr, zzs])
  go_cut [53] (fun v53 wc => ∃ (kq : Nat) (x53_5 : Bool), v53 = .bool x53_5 ∧ Aside0 (laws_FnMarkBatch.j0 kq t203 t204 t205 t216 t226 x53_5 t208 t209 t210 t211 t212 t213 t218 t219 t220 t221 t222 t223 = some r) ∧ Aside0 (kq ≤ k) ∧ Aside0 (Kd.N k34 34 wc w.heap.size (fun k_ => some k_ ≠ ((.slice Ao16 t223.length co16) : Value).ownBlock ∧ k_ ≠ gb217 ∧ k_ ≠ gb227) (.slice Ao11 t213.length co11) t213) ∧ Aside0 (Kd.N k34 34 wc w.heap.size (fun k_ => some k_ ≠ ((.slice Ao11 t213.length co11) : Value).ownBlock ∧ k_ ≠ gb217 ∧ k_ ≠ gb227) (.slice Ao16 t223.length co16) t223) ∧ Aside0 (wc.heap[gb217]? = some (.cells #[.bool t208, .bool t209, .int .i64 t210, .int .i64 t211, .int .i64 t212, (.slice Ao11 t213.length co11)] 27 (0, 0))) ∧ Aside0 (wc.heap[gb227]? = some (.cells #[.bool t218, .bool t219, .int .i64 t220, .int .i64 t221, .int .i64 t222, (.slice Ao16 t223.length co16)] 27 (0, 0))) ∧ Aside0 (Below w.heap.size w wc))
  case first =>
   have H := HC6.out
   clear HC6
   by_cases c17 : (t216 != t226) = true
   ·
    rw [if_pos c17] at H
    have c17b0 : (t216 != t226) = true := c17
    (try (have c17b1 : decide (t216 = t226) = false := by simpa using c17))
    (try (have c17b2 : (t216 == t226) = false := by simpa using c17))
    (try (have c17b3 : ¬ (t216 = t226) := by simpa using c17))
    clear c17
    (first | rw [c17b0] | (simp only [i64_w, i32_w]; rw [c17b0]) | skip)
    have H' := zzm H
    clear H
    go_wp2
    go_meet
    case rel => exact ⟨_, (true), (by first | rfl | (simp; done) | (simp [*]; done)), H', ⟨by first | omega | exact Nat.le_refl _⟩, ⟨by (with_reducible repeat (first | apply Kd.N_alloc | apply Kd.N_drewN | apply Kd.N_drew)); exact Kd.N_mono (Kd.N_far (p := ⟨gb227, 5, none⟩) (Kd.N_far (p := ⟨gb227, 4, none⟩) (Kd.N_far (p := ⟨gb227, 3, none⟩) (Kd.N_far (p := ⟨gb227, 2, none⟩) (Kd.N_far (p := ⟨gb227, 1, none⟩) (Kd.N_far (p := ⟨gb227, 0, none⟩) (Kd.N_mono HO215.out (fun k_ hk => (⟨hk, hk.2⟩ : _ ∧ k_ ≠ gb227))) (fun _ hk => hk.2) (.bool t218)) (fun _ hk => hk.2) (.bool t219)) (fun _ hk => hk.2) (.int .i64 t220)) (fun _ hk => hk.2) (.int .i64 t221)) (fun _ hk => hk.2) (.int .i64 t222)) (fun _ hk => hk.2) (.slice Ao16 t223.length co16)) (fun _ hk => ⟨hk.1.1.2, ⟨hk.1.1.1.2, hk.1.2⟩⟩)⟩, ⟨by (with_reducible repeat (first | apply Kd.N_alloc | apply Kd.N_drewN | apply Kd.N_drew)); exact Kd.N_mono (Kd.N_far (p := ⟨gb227, 5, none⟩) (Kd.N_far (p := ⟨gb227, 4, none⟩) (Kd.N_far (p := ⟨gb227, 3, none⟩) (Kd.N_far (p := ⟨gb227, 2, none⟩) (Kd.N_far (p := ⟨gb227, 1, none⟩) (Kd.N_far (p := ⟨gb227, 0, none⟩) (Kd.N_mono HO225.out (fun k_ hk => (⟨hk, hk.2⟩ : _ ∧ k_ ≠ gb227))) (fun _ hk => hk.2) (.bool t218)) (fun _ hk => hk.2) (.bool t219)) (fun _ hk => hk.2) (.int .i64 t220)) (fun _ hk => hk.2) (.int .i64 t221)) (fun _ hk => hk.2) (.int .i64 t222)) (fun _ hk => hk.2) (.slice Ao16 t223.length co16)) (fun _ hk => ⟨hk.1.1.1, ⟨hk.1.1.2, hk.1.2⟩⟩)⟩, ⟨by (with_reducible repeat (first | refine zzf ?_ _ | refine zzg ?_ | refine zze ?_ _)); refine zzj ?_ NB217_227.out _; (with_reducible repeat (first | refine zzf ?_ _ | refine zzg ?_ | refine zze ?_ _)); refine zzj ?_ NB217_227.out _; (with_reducible repeat (first | refine zzf ?_ _ | refine zzg ?_ | refine zze ?_ _)); refine zzj ?_ NB217_227.out _; (with_reducible repeat (first | refine zzf ?_ _ | refine zzg ?_ | refine zze ?_ _)); refine zzj ?_ NB217_227.out _; (with_reducible repeat (first | refine zzf ?_ _ | refine zzg ?_ | refine zze ?_ _)); refine zzj ?_ NB217_227.out _; (with_reducible repeat (first | refine zzf ?_ _ | refine zzg ?_ | refine zze ?_ _)); refine zzj ?_ NB217_227.out _; (with_reducible repeat (first | refine zzf ?_ _ | refine zzg ?_ | refine zze ?_ _)); exact BK217.out⟩, ⟨by (with_reducible repeat (first | refine zzf ?_ _ | refine zzg ?_ | refine zze ?_ _)); refine zzi (cs := #[.bool t218, .bool t219, .int .i64 t220, .int .i64 t221, .int .i64 t222, .slice none 0 0]) ?_ 5 _ rfl; (with_reducible repeat (first | refine zzf ?_ _ | refine zzg ?_ | refine zze ?_ _)); refine zzi (cs := #[.bool t218, .bool t219, .int .i64 t220, .int .i64 t221, .int .i64 0, .slice none 0 0]) ?_ 4 _ rfl; (with_reducible repeat (first | refine zzf ?_ _ | refine zzg ?_ | refine zze ?_ _)); refine zzi (cs := #[.bool t218, .bool t219, .int .i64 t220, .int .i64 0, .int .i64 0, .slice none 0 0]) ?_ 3 _ rfl; (with_reducible repeat (first | refine zzf ?_ _ | refine zzg ?_ | refine zze ?_ _)); refine zzi (cs := #[.bool t218, .bool t219, .int .i64 0, .int .i64 0, .int .i64 0, .slice none 0 0]) ?_ 2 _ rfl; (with_reducible repeat (first | refine zzf ?_ _ | refine zzg ?_ | refine zze ?_ _)); refine zzi (cs := #[.bool t218, .bool false, .int .i64 0, .int .i64 0, .int .i64 0, .slice none 0 0]) ?_ 1 _ rfl; (with_reducible repeat (first | refine zzf ?_ _ | refine zzg ?_ | refine zze ?_ _)); refine zzi (cs := #[.bool false, .bool false, .int .i64 0, .int .i64 0, .int .i64 0, .slice none 0 0]) ?_ 0 _ rfl; (with_reducible repeat (first | refine zzf ?_ _ | refine zzg ?_ | refine zze ?_ _)); exact BK227.out⟩, ⟨by repeat (first | (with_reducible first | exact HB.out | apply zza | apply zzb | apply zzc | refine zzd ?_ GE217.out | refine zzd ?_ GE227.out) | exact HB.out)⟩⟩
   ·
    rw [if_neg c17] at H
    have c17b0 : (t216 != t226) = false := by simpa using c17
    (try (have c17b1 : decide (t216 = t226) = true := by simpa using c17))
    (try (have c17b2 : (t216 == t226) = true := by simpa using c17))
    clear c17
    (first | rw [c17b0] | (simp only [i64_w, i32_w]; rw [c17b0]) | skip)
    replace H := Option.bind_eq_some_iff.mp H
    obtain ⟨t228, A180, H⟩ := H
    replace H : (if t228 = true then (laws_FnMarkBatch.j0 k t203 t204 t205 t216 t226 (!t216) t208 t209 t210 t211 t212 t213 t218 t219 t220 t221 t222 t223) else (laws_FnMarkBatch.j0 k t203 t204 t205 t216 t226 true t208 t209 t210 t211 t212 t213 t218 t219 t220 t221 t222 t223)) = some r := H
    have A18 := zzm A180
    clear A180
    by_cases c19 : t228 = true
    ·
     subst c19
     have H1 : (laws_FnMarkBatch.j0 k t203 t204 t205 t216 t226 (!t216) t208 t209 t210 t211 t212 t213 t218 t219 t220 t221 t222 t223) = some r := by rw [if_pos rfl] at H; exact H
     clear H
     have H := H1
     clear H1
     have H' := zzm H
     clear H
     have hnb20 := NB217_227.out
     have hnc20 := NB227_217.out
     obtain ⟨hcz21_0, hcz21_1, hcz21_2, hcz21_3, hcz21_4, hcz21_5, hfz21_0, hfz21_1, hfz21_2, hfz21_3, hfz21_4, hfz21_5⟩ := zzc6 BK217.out
     obtain ⟨hcz22_0, hcz22_1, hcz22_2, hcz22_3, hcz22_4, hcz22_5, hfz22_0, hfz22_1, hfz22_2, hfz22_3, hfz22_4, hfz22_5⟩ := zzc6 BK227.out
     go_wp2_with (first | (go_at_call 21; (with_reducible refine (laws_sameBatch.calls k t208 t209 t210 t211 t212 _ _ t213 t218 t219 t220 t221 t222 _ _ t223 true _ ?side1 ?side2 ?side3 ?side4 A18.out).mono ?_); (case side1 => refine (Kd.N_reads' (e := 34) (base := w.heap.size) (ok := fun k_ => (((True ∧ k_ ≠ gb217) ∧ some k_ ≠ (.slice Ao16 t223.length co16 : Value).ownBlock) ∧ k_ ≠ gb227)) (n := t213.length) (c := co11) ?_).2.2; exact (by (with_reducible repeat (first | apply Kd.N_alloc | apply Kd.N_drewN | apply Kd.N_drew)); exact (Kd.N_mono (Kd.N_far (p := ⟨gb227, 5, none⟩) (Kd.N_far (p := ⟨gb227, 4, none⟩) (Kd.N_far (p := ⟨gb227, 3, none⟩) (Kd.N_far (p := ⟨gb227, 2, none⟩) (Kd.N_far (p := ⟨gb227, 1, none⟩) (Kd.N_far (p := ⟨gb227, 0, none⟩) (Kd.N_mono HO215.out (fun k_ hk => (⟨hk, hk.2⟩ : _ ∧ k_ ≠ gb227))) (fun _ hk => hk.2) (.bool t218)) (fun _ hk => hk.2) (.bool t219)) (fun _ hk => hk.2) (.int .i64 t220)) (fun _ hk => hk.2) (.int .i64 t221)) (fun _ hk => hk.2) (.int .i64 t222)) (fun _ hk => hk.2) (.slice Ao16 t223.length co16)) (fun _ h_ => h_.1)))); (case side2 => exact (Kd.N_reads' HO215.out).2.1); (case side3 => refine (Kd.N_reads' (e := 34) (base := w.heap.size) (ok := fun k_ => ((some k_ ≠ (.slice Ao11 t213.length co11 : Value).ownBlock ∧ k_ ≠ gb217) ∧ k_ ≠ gb227)) (n := t223.length) (c := co16) ?_).2.2; exact (by (with_reducible repeat (first | apply Kd.N_alloc | apply Kd.N_drewN | apply Kd.N_drew)); exact (Kd.N_mono (Kd.N_far (p := ⟨gb227, 5, none⟩) (Kd.N_far (p := ⟨gb227, 4, none⟩) (Kd.N_far (p := ⟨gb227, 3, none⟩) (Kd.N_far (p := ⟨gb227, 2, none⟩) (Kd.N_far (p := ⟨gb227, 1, none⟩) (Kd.N_far (p := ⟨gb227, 0, none⟩) (Kd.N_mono HO225.out (fun k_ hk => (⟨hk, hk.2⟩ : _ ∧ k_ ≠ gb227))) (fun _ hk => hk.2) (.bool t218)) (fun _ hk => hk.2) (.bool t219)) (fun _ hk => hk.2) (.int .i64 t220)) (fun _ hk => hk.2) (.int .i64 t221)) (fun _ hk => hk.2) (.int .i64 t222)) (fun _ hk => hk.2) (.slice Ao16 t223.length co16)) (fun _ h_ => h_.1)))); (case side4 => exact (Kd.N_reads' HO225.out).2.1); rintro e w23 ⟨rfl, hb⟩; have n0_ := zzm (Kd.N_below (by (with_reducible repeat (first | apply Kd.N_alloc | apply Kd.N_drewN | apply Kd.N_drew)); exact (Kd.N_mono (Kd.N_far (p := ⟨gb227, 5, none⟩) (Kd.N_far (p := ⟨gb227, 4, none⟩) (Kd.N_far (p := ⟨gb227, 3, none⟩) (Kd.N_far (p := ⟨gb227, 2, none⟩) (Kd.N_far (p := ⟨gb227, 1, none⟩) (Kd.N_far (p := ⟨gb227, 0, none⟩) (Kd.N_mono HO215.out (fun k_ hk => (⟨hk, hk.2⟩ : _ ∧ k_ ≠ gb227))) (fun _ hk => hk.2) (.bool t218)) (fun _ hk => hk.2) (.bool t219)) (fun _ hk => hk.2) (.int .i64 t220)) (fun _ hk => hk.2) (.int .i64 t221)) (fun _ hk => hk.2) (.int .i64 t222)) (fun _ hk => hk.2) (.slice Ao16 t223.length co16)) (fun _ h_ => h_.1))) hb); have n1_ := zzm (Kd.N_below (by (with_reducible repeat (first | apply Kd.N_alloc | apply Kd.N_drewN | apply Kd.N_drew)); exact (Kd.N_mono (Kd.N_far (p := ⟨gb227, 5, none⟩) (Kd.N_far (p := ⟨gb227, 4, none⟩) (Kd.N_far (p := ⟨gb227, 3, none⟩) (Kd.N_far (p := ⟨gb227, 2, none⟩) (Kd.N_far (p := ⟨gb227, 1, none⟩) (Kd.N_far (p := ⟨gb227, 0, none⟩) (Kd.N_mono HO225.out (fun k_ hk => (⟨hk, hk.2⟩ : _ ∧ k_ ≠ gb227))) (fun _ hk => hk.2) (.bool t218)) (fun _ hk => hk.2) (.bool t219)) (fun _ hk => hk.2) (.int .i64 t220)) (fun _ hk => hk.2) (.int .i64 t221)) (fun _ hk => hk.2) (.int .i64 t222)) (fun _ hk => hk.2) (.slice Ao16 t223.length co16)) (fun _ h_ => h_.1))) hb); have n2_ := zzm (zzh (g := gb217) (o := .cells #[.bool t208, .bool t209, .int .i64 t210, .int .i64 t211, .int .i64 t212, .slice Ao11 t213.length co11] 27 (0, 0)) (by (with_reducible repeat (first | refine zzf ?_ _ | refine zzg ?_ | refine zze ?_ _)); refine zzj ?_ NB217_227.out _; (with_reducible repeat (first | refine zzf ?_ _ | refine zzg ?_ | refine zze ?_ _)); refine zzj ?_ NB217_227.out _; (with_reducible repeat (first | refine zzf ?_ _ | refine zzg ?_ | refine zze ?_ _)); refine zzj ?_ NB217_227.out _; (with_reducible repeat (first | refine zzf ?_ _ | refine zzg ?_ | refine zze ?_ _)); refine zzj ?_ NB217_227.out _; (with_reducible repeat (first | refine zzf ?_ _ | refine zzg ?_ | refine zze ?_ _)); refine zzj ?_ NB217_227.out _; (with_reducible repeat (first | refine zzf ?_ _ | refine zzg ?_ | refine zze ?_ _)); refine zzj ?_ NB217_227.out _; (with_reducible repeat (first | refine zzf ?_ _ | refine zzg ?_ | refine zze ?_ _)); exact BK217.out) hb); have n3_ := zzm (zzh (g := gb227) (o := .cells #[.bool t218, .bool t219, .int .i64 t220, .int .i64 t221, .int .i64 t222, .slice Ao16 t223.length co16] 27 (0, 0)) (by (with_reducible repeat (first | refine zzf ?_ _ | refine zzg ?_ | refine zze ?_ _)); refine zzi (cs := #[.bool t218, .bool t219, .int .i64 t220, .int .i64 t221, .int .i64 t222, .slice none 0 0]) ?_ 5 _ rfl; (with_reducible repeat (first | refine zzf ?_ _ | refine zzg ?_ | refine zze ?_ _)); refine zzi (cs := #[.bool t218, .bool t219, .int .i64 t220, .int .i64 t221, .int .i64 0, .slice none 0 0]) ?_ 4 _ rfl; (with_reducible repeat (first | refine zzf ?_ _ | refine zzg ?_ | refine zze ?_ _)); refine zzi (cs := #[.bool t218, .bool t219, .int .i64 t220, .int .i64 0, .int .i64 0, .slice none 0 0]) ?_ 3 _ rfl; (with_reducible repeat (first | refine zzf ?_ _ | refine zzg ?_ | refine zze ?_ _)); refine zzi (cs := #[.bool t218, .bool t219, .int .i64 0, .int .i64 0, .int .i64 0, .slice none 0 0]) ?_ 2 _ rfl; (with_reducible repeat (first | refine zzf ?_ _ | refine zzg ?_ | refine zze ?_ _)); refine zzi (cs := #[.bool t218, .bool false, .int .i64 0, .int .i64 0, .int .i64 0, .slice none 0 0]) ?_ 1 _ rfl; (with_reducible repeat (first | refine zzf ?_ _ | refine zzg ?_ | refine zze ?_ _)); refine zzi (cs := #[.bool false, .bool false, .int .i64 0, .int .i64 0, .int .i64 0, .slice none 0 0]) ?_ 0 _ rfl; (with_reducible repeat (first | refine zzf ?_ _ | refine zzg ?_ | refine zze ?_ _)); exact BK227.out) hb); have n4_ := zzm (zzp (by repeat (first | (with_reducible first | exact HB.out | apply zza | apply zzb | apply zzc | refine zzd ?_ GE217.out | refine zzd ?_ GE227.out) | exact HB.out)) hb); clear HO215 HO225 BK217 BK227 HB; have HO215 := n0_; have HO225 := n1_; have BK217 := n2_; have BK227 := n3_; have HB := n4_; clear n0_ n1_ n2_ n3_ n4_; (try clear hb); (try clear hb2); (try clear hk); (try clear hi)))
     go_meet
     case rel => exact ⟨_, (!t216), (by first | rfl | (simp; done) | (simp [*]; done)), H', ⟨by first | omega | exact Nat.le_refl _⟩, ⟨by (with_reducible repeat (first | apply Kd.N_alloc | apply Kd.N_drewN | apply Kd.N_drew)); exact Kd.N_mono HO215.out (fun _ hk => ⟨hk.1.2, ⟨hk.1.1.2, hk.2⟩⟩)⟩, ⟨by (with_reducible repeat (first | apply Kd.N_alloc | apply Kd.N_drewN | apply Kd.N_drew)); exact Kd.N_mono HO225.out (fun _ hk => ⟨hk.1.1, ⟨hk.1.2, hk.2⟩⟩)⟩, ⟨by (with_reducible repeat (first | refine zzf ?_ _ | refine zzg ?_ | refine zze ?_ _)); exact BK217.out⟩, ⟨by (with_reducible repeat (first | refine zzf ?_ _ | refine zzg ?_ | refine zze ?_ _)); exact BK227.out⟩, ⟨by repeat (first | (with_reducible first | exact HB.out | apply zza | apply zzb | apply zzc | refine zzd ?_ GE217.out | refine zzd ?_ GE227.out) | exact HB.out)⟩⟩
    ·
     replace c19 := Bool.eq_false_iff.mpr c19
     subst c19
     have H1 : (laws_FnMarkBatch.j0 k t203 t204 t205 t216 t226 true t208 t209 t210 t211 t212 t213 t218 t219 t220 t221 t222 t223) = some r := by rw [if_neg (show ¬ (false = true) by decide)] at H; exact H
     clear H
     have H := H1
     clear H1
     have H' := zzm H
     clear H
     have hnb24 := NB217_227.out
     have hnc24 := NB227_217.out
     obtain ⟨hcz25_0, hcz25_1, hcz25_2, hcz25_3, hcz25_4, hcz25_5, hfz25_0, hfz25_1, hfz25_2, hfz25_3, hfz25_4, hfz25_5⟩ := zzc6 BK217.out
     obtain ⟨hcz26_0, hcz26_1, hcz26_2, hcz26_3, hcz26_4, hcz26_5, hfz26_0, hfz26_1, hfz26_2, hfz26_3, hfz26_4, hfz26_5⟩ := zzc6 BK227.out
     go_wp2_with (first | (go_at_call 21; (with_reducible refine (laws_sameBatch.calls k t208 t209 t210 t211 t212 _ _ t213 t218 t219 t220 t221 t222 _ _ t223 false _ ?side1 ?side2 ?side3 ?side4 A18.out).mono ?_); (case side1 => refine (Kd.N_reads' (e := 34) (base := w.heap.size) (ok := fun k_ => (((True ∧ k_ ≠ gb217) ∧ some k_ ≠ (.slice Ao16 t223.length co16 : Value).ownBlock) ∧ k_ ≠ gb227)) (n := t213.length) (c := co11) ?_).2.2; exact (by (with_reducible repeat (first | apply Kd.N_alloc | apply Kd.N_drewN | apply Kd.N_drew)); exact (Kd.N_mono (Kd.N_far (p := ⟨gb227, 5, none⟩) (Kd.N_far (p := ⟨gb227, 4, none⟩) (Kd.N_far (p := ⟨gb227, 3, none⟩) (Kd.N_far (p := ⟨gb227, 2, none⟩) (Kd.N_far (p := ⟨gb227, 1, none⟩) (Kd.N_far (p := ⟨gb227, 0, none⟩) (Kd.N_mono HO215.out (fun k_ hk => (⟨hk, hk.2⟩ : _ ∧ k_ ≠ gb227))) (fun _ hk => hk.2) (.bool t218)) (fun _ hk => hk.2) (.bool t219)) (fun _ hk => hk.2) (.int .i64 t220)) (fun _ hk => hk.2) (.int .i64 t221)) (fun _ hk => hk.2) (.int .i64 t222)) (fun _ hk => hk.2) (.slice Ao16 t223.length co16)) (fun _ h_ => h_.1)))); (case side2 => exact (Kd.N_reads' HO215.out).2.1); (case side3 => refine (Kd.N_reads' (e := 34) (base := w.heap.size) (ok := fun k_ => ((some k_ ≠ (.slice Ao11 t213.length co11 : Value).ownBlock ∧ k_ ≠ gb217) ∧ k_ ≠ gb227)) (n := t223.length) (c := co16) ?_).2.2; exact (by (with_reducible repeat (first | apply Kd.N_alloc | apply Kd.N_drewN | apply Kd.N_drew)); exact (Kd.N_mono (Kd.N_far (p := ⟨gb227, 5, none⟩) (Kd.N_far (p := ⟨gb227, 4, none⟩) (Kd.N_far (p := ⟨gb227, 3, none⟩) (Kd.N_far (p := ⟨gb227, 2, none⟩) (Kd.N_far (p := ⟨gb227, 1, none⟩) (Kd.N_far (p := ⟨gb227, 0, none⟩) (Kd.N_mono HO225.out (fun k_ hk => (⟨hk, hk.2⟩ : _ ∧ k_ ≠ gb227))) (fun _ hk => hk.2) (.bool t218)) (fun _ hk => hk.2) (.bool t219)) (fun _ hk => hk.2) (.int .i64 t220)) (fun _ hk => hk.2) (.int .i64 t221)) (fun _ hk => hk.2) (.int .i64 t222)) (fun _ hk => hk.2) (.slice Ao16 t223.length co16)) (fun _ h_ => h_.1)))); (case side4 => exact (Kd.N_reads' HO225.out).2.1); rintro e w27 ⟨rfl, hb⟩; have n0_ := zzm (Kd.N_below (by (with_reducible repeat (first | apply Kd.N_alloc | apply Kd.N_drewN | apply Kd.N_drew)); exact (Kd.N_mono (Kd.N_far (p := ⟨gb227, 5, none⟩) (Kd.N_far (p := ⟨gb227, 4, none⟩) (Kd.N_far (p := ⟨gb227, 3, none⟩) (Kd.N_far (p := ⟨gb227, 2, none⟩) (Kd.N_far (p := ⟨gb227, 1, none⟩) (Kd.N_far (p := ⟨gb227, 0, none⟩) (Kd.N_mono HO215.out (fun k_ hk => (⟨hk, hk.2⟩ : _ ∧ k_ ≠ gb227))) (fun _ hk => hk.2) (.bool t218)) (fun _ hk => hk.2) (.bool t219)) (fun _ hk => hk.2) (.int .i64 t220)) (fun _ hk => hk.2) (.int .i64 t221)) (fun _ hk => hk.2) (.int .i64 t222)) (fun _ hk => hk.2) (.slice Ao16 t223.length co16)) (fun _ h_ => h_.1))) hb); have n1_ := zzm (Kd.N_below (by (with_reducible repeat (first | apply Kd.N_alloc | apply Kd.N_drewN | apply Kd.N_drew)); exact (Kd.N_mono (Kd.N_far (p := ⟨gb227, 5, none⟩) (Kd.N_far (p := ⟨gb227, 4, none⟩) (Kd.N_far (p := ⟨gb227, 3, none⟩) (Kd.N_far (p := ⟨gb227, 2, none⟩) (Kd.N_far (p := ⟨gb227, 1, none⟩) (Kd.N_far (p := ⟨gb227, 0, none⟩) (Kd.N_mono HO225.out (fun k_ hk => (⟨hk, hk.2⟩ : _ ∧ k_ ≠ gb227))) (fun _ hk => hk.2) (.bool t218)) (fun _ hk => hk.2) (.bool t219)) (fun _ hk => hk.2) (.int .i64 t220)) (fun _ hk => hk.2) (.int .i64 t221)) (fun _ hk => hk.2) (.int .i64 t222)) (fun _ hk => hk.2) (.slice Ao16 t223.length co16)) (fun _ h_ => h_.1))) hb); have n2_ := zzm (zzh (g := gb217) (o := .cells #[.bool t208, .bool t209, .int .i64 t210, .int .i64 t211, .int .i64 t212, .slice Ao11 t213.length co11] 27 (0, 0)) (by (with_reducible repeat (first | refine zzf ?_ _ | refine zzg ?_ | refine zze ?_ _)); refine zzj ?_ NB217_227.out _; (with_reducible repeat (first | refine zzf ?_ _ | refine zzg ?_ | refine zze ?_ _)); refine zzj ?_ NB217_227.out _; (with_reducible repeat (first | refine zzf ?_ _ | refine zzg ?_ | refine zze ?_ _)); refine zzj ?_ NB217_227.out _; (with_reducible repeat (first | refine zzf ?_ _ | refine zzg ?_ | refine zze ?_ _)); refine zzj ?_ NB217_227.out _; (with_reducible repeat (first | refine zzf ?_ _ | refine zzg ?_ | refine zze ?_ _)); refine zzj ?_ NB217_227.out _; (with_reducible repeat (first | refine zzf ?_ _ | refine zzg ?_ | refine zze ?_ _)); refine zzj ?_ NB217_227.out _; (with_reducible repeat (first | refine zzf ?_ _ | refine zzg ?_ | refine zze ?_ _)); exact BK217.out) hb); have n3_ := zzm (zzh (g := gb227) (o := .cells #[.bool t218, .bool t219, .int .i64 t220, .int .i64 t221, .int .i64 t222, .slice Ao16 t223.length co16] 27 (0, 0)) (by (with_reducible repeat (first | refine zzf ?_ _ | refine zzg ?_ | refine zze ?_ _)); refine zzi (cs := #[.bool t218, .bool t219, .int .i64 t220, .int .i64 t221, .int .i64 t222, .slice none 0 0]) ?_ 5 _ rfl; (with_reducible repeat (first | refine zzf ?_ _ | refine zzg ?_ | refine zze ?_ _)); refine zzi (cs := #[.bool t218, .bool t219, .int .i64 t220, .int .i64 t221, .int .i64 0, .slice none 0 0]) ?_ 4 _ rfl; (with_reducible repeat (first | refine zzf ?_ _ | refine zzg ?_ | refine zze ?_ _)); refine zzi (cs := #[.bool t218, .bool t219, .int .i64 t220, .int .i64 0, .int .i64 0, .slice none 0 0]) ?_ 3 _ rfl; (with_reducible repeat (first | refine zzf ?_ _ | refine zzg ?_ | refine zze ?_ _)); refine zzi (cs := #[.bool t218, .bool t219, .int .i64 0, .int .i64 0, .int .i64 0, .slice none 0 0]) ?_ 2 _ rfl; (with_reducible repeat (first | refine zzf ?_ _ | refine zzg ?_ | refine zze ?_ _)); refine zzi (cs := #[.bool t218, .bool false, .int .i64 0, .int .i64 0, .int .i64 0, .slice none 0 0]) ?_ 1 _ rfl; (with_reducible repeat (first | refine zzf ?_ _ | refine zzg ?_ | refine zze ?_ _)); refine zzi (cs := #[.bool false, .bool false, .int .i64 0, .int .i64 0, .int .i64 0, .slice none 0 0]) ?_ 0 _ rfl; (with_reducible repeat (first | refine zzf ?_ _ | refine zzg ?_ | refine zze ?_ _)); exact BK227.out) hb); have n4_ := zzm (zzp (by repeat (first | (with_reducible first | exact HB.out | apply zza | apply zzb | apply zzc | refine zzd ?_ GE217.out | refine zzd ?_ GE227.out) | exact HB.out)) hb); clear HO215 HO225 BK217 BK227 HB; have HO215 := n0_; have HO225 := n1_; have BK217 := n2_; have BK227 := n3_; have HB := n4_; clear n0_ n1_ n2_ n3_ n4_; (try clear hb); (try clear hb2); (try clear hk); (try clear hi)))
     go_meet
     case rel => exact ⟨_, (true), (by first | rfl | (simp; done) | (simp [*]; done)), H', ⟨by first | omega | exact Nat.le_refl _⟩, ⟨by (with_reducible repeat (first | apply Kd.N_alloc | apply Kd.N_drewN | apply Kd.N_drew)); exact Kd.N_mono HO215.out (fun _ hk => ⟨hk.1.2, ⟨hk.1.1.2, hk.2⟩⟩)⟩, ⟨by (with_reducible repeat (first | apply Kd.N_alloc | apply Kd.N_drewN | apply Kd.N_drew)); exact Kd.N_mono HO225.out (fun _ hk => ⟨hk.1.1, ⟨hk.1.2, hk.2⟩⟩)⟩, ⟨by (with_reducible repeat (first | refine zzf ?_ _ | refine zzg ?_ | refine zze ?_ _)); exact BK217.out⟩, ⟨by (with_reducible repeat (first | refine zzf ?_ _ | refine zzg ?_ | refine zze ?_ _)); exact BK227.out⟩, ⟨by repeat (first | (with_reducible first | exact HB.out | apply zza | apply zzb | apply zzc | refine zzd ?_ GE217.out | refine zzd ?_ GE227.out) | exact HB.out)⟩⟩
  case rest =>
   clear HC6
   try clear c1
   try clear c2
   try clear c2b0
   try clear c2b1
   try clear p2
   try clear c3
   try clear c14
   try clear c17
   try clear c17b0
   try clear c17b1
   try clear c17b2
   try clear c18
   try clear c19
   try clear c20
   try clear c24
   try clear hcz10_0
   try clear hcz10_1
   try clear hcz10_2
   try clear hcz10_3
   try clear hcz10_4
   try clear hcz10_5
   try clear hcz15_0
   try clear hcz15_1
   try clear hcz15_2
   try clear hcz15_3
   try clear hcz15_4
   try clear hcz15_5
   try clear hcz21_0
   try clear hcz21_1
   try clear hcz21_2
   try clear hcz21_3
   try clear hcz21_4
   try clear hcz21_5
   try clear hcz22_0
   try clear hcz22_1
   try clear hcz22_2
   try clear hcz22_3
   try clear hcz22_4
   try clear hcz22_5
   try clear hcz25_0
   try clear hcz25_1
   try clear hcz25_2
   try clear hcz25_3
   try clear hcz25_4
   try clear hcz25_5
   try clear hcz26_0
   try clear hcz26_1
   try clear hcz26_2
   try clear hcz26_3
   try clear hcz26_4
   try clear hcz26_5
   try clear hfz10_0
   try clear hfz10_1
   try clear hfz10_2
   try clear hfz10_3
   try clear hfz10_4
   try clear hfz10_5
   try clear hfz15_0
   try clear hfz15_1
   try clear hfz15_2
   try clear hfz15_3
   try clear hfz15_4
   try clear hfz15_5
   try clear hfz21_0
   try clear hfz21_1
   try clear hfz21_2
   try clear hfz21_3
   try clear hfz21_4
   try clear hfz21_5
   try clear hfz22_0
   try clear hfz22_1
   try clear hfz22_2
   try clear hfz22_3
   try clear hfz22_4
   try clear hfz22_5
   try clear hfz25_0
   try clear hfz25_1
   try clear hfz25_2
   try clear hfz25_3
   try clear hfz25_4
   try clear hfz25_5
   try clear hfz26_0
   try clear hfz26_1
   try clear hfz26_2
   try clear hfz26_3
   try clear hfz26_4
   try clear hfz26_5
   obtain ⟨kq, x53_5, rfl, HA, HJ5, HO_218005, HO_228005, BK217, BK227, HB⟩ := hcut
   cases kq with
   | zero => exact absurd HA.out (by simp [laws_FnMarkBatch.j0])
   | succ kj5 =>
    have H := HA.out
    clear HA
    simp only [laws_FnMarkBatch.j0] at H
    by_cases c28 : x53_5 = true
    ·
     subst c28
     have H1 : (if (t216 == t226) = true then ((laws_sameBatch.f kj5 t208 t209 t210 t211 t212 t213 t218 t219 t220 t221 t222 t223).bind fun t229 => (some t229)) else (some false)) = some r := by rw [if_pos rfl] at H; exact H
     clear H
     have H := H1
     clear H1
     by_cases c29 : (t216 == t226) = true
     ·
      rw [if_pos c29] at H
      have c29b0 : (t216 == t226) = true := c29
      (try (have c29b1 : decide (t216 = t226) = true := by simpa using c29))
      (try (have c29b2 : (t216 == t226) = true := by simpa using c29))
      clear c29
      replace H := Option.bind_eq_some_iff.mp H
      obtain ⟨t229, A300, H⟩ := H
      replace H : (some t229) = some r := H
      have A30 := zzm A300
      clear A300
      obtain rfl := Option.some.inj H
      have hnb31 := NB217_227.out
      have hnc31 := NB227_217.out
      obtain ⟨hcz32_0, hcz32_1, hcz32_2, hcz32_3, hcz32_4, hcz32_5, hfz32_0, hfz32_1, hfz32_2, hfz32_3, hfz32_4, hfz32_5⟩ := zzc6 BK217.out
      obtain ⟨hcz33_0, hcz33_1, hcz33_2, hcz33_3, hcz33_4, hcz33_5, hfz33_0, hfz33_1, hfz33_2, hfz33_3, hfz33_4, hfz33_5⟩ := zzc6 BK227.out
      go_wp2_with (first | (go_at_call 21; (with_reducible refine (laws_sameBatch.calls kj5 t208 t209 t210 t211 t212 _ _ t213 t218 t219 t220 t221 t222 _ _ t223 t229 _ ?side1 ?side2 ?side3 ?side4 A30.out).mono ?_); (case side1 => repeat (first | exact (Kd.N_reads' HO_218005.out).2.2 | (with_reducible refine Kd.C_alloc ?_ _) | (with_reducible refine Kd.C_drewN ?_ _) | (with_reducible refine Kd.C_drew ?_))); (case side2 => exact (Kd.N_reads' HO_218005.out).2.1); (case side3 => repeat (first | exact (Kd.N_reads' HO_228005.out).2.2 | (with_reducible refine Kd.C_alloc ?_ _) | (with_reducible refine Kd.C_drewN ?_ _) | (with_reducible refine Kd.C_drew ?_))); (case side4 => exact (Kd.N_reads' HO_228005.out).2.1); rintro e w34 ⟨rfl, hb⟩; have n0_ := zzm (Kd.N_below (by (with_reducible repeat (first | apply Kd.N_alloc | apply Kd.N_drewN | apply Kd.N_drew)); exact HO_218005.out) hb); have n1_ := zzm (Kd.N_below (by (with_reducible repeat (first | apply Kd.N_alloc | apply Kd.N_drewN | apply Kd.N_drew)); exact HO_228005.out) hb); have n2_ := zzm (zzh (g := gb217) (o := .cells #[.bool t208, .bool t209, .int .i64 t210, .int .i64 t211, .int .i64 t212, .slice Ao11 t213.length co11] 27 (0, 0)) (by (with_reducible repeat (first | refine zzf ?_ _ | refine zzg ?_ | refine zze ?_ _)); exact BK217.out) hb); have n3_ := zzm (zzh (g := gb227) (o := .cells #[.bool t218, .bool t219, .int .i64 t220, .int .i64 t221, .int .i64 t222, .slice Ao16 t223.length co16] 27 (0, 0)) (by (with_reducible repeat (first | refine zzf ?_ _ | refine zzg ?_ | refine zze ?_ _)); exact BK227.out) hb); have n4_ := zzm (zzp (by repeat (first | (with_reducible first | exact HB.out | apply zza | apply zzb | apply zzc | refine zzd ?_ GE217.out | refine zzd ?_ GE227.out) | exact HB.out)) hb); clear HO_218005 HO_228005 BK217 BK227 HB; have HO_218005 := n0_; have HO_228005 := n1_; have BK217 := n2_; have BK227 := n3_; have HB := n4_; clear n0_ n1_ n2_ n3_ n4_; (try clear hb); (try clear hb2); (try clear hk); (try clear hi)))
      go_ret
      exact ⟨by first | rfl | (simp [errW_none, errW_some] <;> rfl) | (simp [*, errW_none, errW_some] <;> rfl), by repeat (first | (with_reducible first | exact HB.out | apply zza | apply zzb | apply zzc | refine zzd ?_ GE217.out | refine zzd ?_ GE227.out) | exact HB.out)⟩
     ·
      rw [if_neg c29] at H
      have c29b0 : (t216 == t226) = false := by simpa using c29
      (try (have c29b1 : decide (t216 = t226) = false := by simpa using c29))
      (try (have c29b2 : (t216 == t226) = false := by simpa using c29))
      (try (have c29b3 : ¬ (t216 = t226) := by simpa using c29))
      clear c29
      obtain rfl := Option.some.inj H
      go_wp2
      go_ret
      exact ⟨by first | rfl | (simp [errW_none, errW_some] <;> rfl) | (simp [*, errW_none, errW_some] <;> rfl), by repeat (first | (with_reducible first | exact HB.out | apply zza | apply zzb | apply zzc | refine zzd ?_ GE217.out | refine zzd ?_ GE227.out) | exact HB.out)⟩
    ·
     replace c28 := Bool.eq_false_iff.mpr c28
     subst c28
     have H1 : ((impl_BatchValid.f kj5 t208 t209 t210 t211 t212 t213).bind fun t230 => (if t230 = true then (if t209 = true then (if t210 = t203 then (if t211 = t204 then (if (t213.length : Int) = 1 then (if 0 < (t213.length : Int) then (some (((rd_T34 t213 0).f0) == t205)) else (none)) else (some false)) else (some false)) else (some false)) else (some false)) else (some false))) = some r := by rw [if_neg (show ¬ (false = true) by decide)] at H; exact H
     clear H
     have H := H1
     clear H1
     replace H := Option.bind_eq_some_iff.mp H
     obtain ⟨t230, A350, H⟩ := H
     replace H : (if t230 = true then (if t209 = true then (if t210 = t203 then (if t211 = t204 then (if (t213.length : Int) = 1 then (if 0 < (t213.length : Int) then (some (((rd_T34 t213 0).f0) == t205)) else (none)) else (some false)) else (some false)) else (some false)) else (some false)) else (some false)) = some r := H
     have A35 := zzm A350
     clear A350
     by_cases c36 : t230 = true
     ·
      subst c36
      have H1 : (if t209 = true then (if t210 = t203 then (if t211 = t204 then (if (t213.length : Int) = 1 then (if 0 < (t213.length : Int) then (some (((rd_T34 t213 0).f0) == t205)) else (none)) else (some false)) else (some false)) else (some false)) else (some false)) = some r := by rw [if_pos rfl] at H; exact H
      clear H
      have H := H1
      clear H1
      by_cases c37 : t209 = true
      ·
       subst c37
       have H1 : (if t210 = t203 then (if t211 = t204 then (if (t213.length : Int) = 1 then (if 0 < (t213.length : Int) then (some (((rd_T34 t213 0).f0) == t205)) else (none)) else (some false)) else (some false)) else (some false)) = some r := by rw [if_pos rfl] at H; exact H
       clear H
       have H := H1
       clear H1
       by_cases c38 : t210 = t203
       ·
        rw [if_pos c38] at H
        have c38b0 : (t210 == t203) = true := beq_iff_eq.mpr c38
        have c38b1 : (t210 != t203) = false := bne_eq_false_iff_eq.mpr c38
        clear c38
        by_cases c39 : t211 = t204
        ·
         rw [if_pos c39] at H
         have c39b0 : (t211 == t204) = true := beq_iff_eq.mpr c39
         have c39b1 : (t211 != t204) = false := bne_eq_false_iff_eq.mpr c39
         clear c39
         by_cases c40 : (t213.length : Int) = 1
         ·
          rw [if_pos c40] at H
          have c40b0 : ((t213.length : Int) == 1) = true := beq_iff_eq.mpr c40
          have c40b1 : ((t213.length : Int) != 1) = false := bne_eq_false_iff_eq.mpr c40
          clear c40
          by_cases c41 : 0 < (t213.length : Int)
          ·
           rw [if_pos c41] at H
           have c41b0 : decide (0 < (t213.length : Int)) = true := decide_eq_true c41
           have c41b1 : decide (0 < t213.length) = true := decide_eq_true (by omega)
           clear c41
           obtain rfl := Option.some.inj H
           have hnb42 := NB217_227.out
           have hnc42 := NB227_217.out
           obtain ⟨hcz43_0, hcz43_1, hcz43_2, hcz43_3, hcz43_4, hcz43_5, hfz43_0, hfz43_1, hfz43_2, hfz43_3, hfz43_4, hfz43_5⟩ := zzc6 BK217.out
           go_wp2_with (first | ((with_reducible refine gate_callee (f := 22) rfl ?_); refine goesL_ (some 63) rfl rfl Try.func22 (by kernel_rfl) rfl #[.agg #[.bool t208, .bool true, .int .i64 t210, .int .i64 t211, .int .i64 t212, .slice Ao11 t213.length co11]] rfl (by (try simp only [List.map_toArray, List.map_cons, List.map_nil]); first | done | rfl | (simp only [List.length_drop, List.length_take]; rfl)) ?_; (with_reducible refine (impl_BatchValid.calls kj5 t208 true t210 t211 t212 _ _ t213 true _ ?side1 ?side2 A35.out).mono ?_); (case side1 => repeat (first | exact (Kd.N_reads' HO_218005.out).2.2 | (with_reducible refine Kd.C_alloc ?_ _) | (with_reducible refine Kd.C_drewN ?_ _) | (with_reducible refine Kd.C_drew ?_))); (case side2 => exact (Kd.N_reads' HO_218005.out).2.1); rintro e w44 ⟨rfl, hb⟩; refine ⟨_, rfl, ?_⟩; have n0_ := zzm (Kd.N_below (by (with_reducible repeat (first | apply Kd.N_alloc | apply Kd.N_drewN | apply Kd.N_drew)); exact HO_218005.out) hb); have n1_ := zzm (Kd.N_below (by (with_reducible repeat (first | apply Kd.N_alloc | apply Kd.N_drewN | apply Kd.N_drew)); exact HO_228005.out) hb); have n2_ := zzm (zzh (g := gb217) (o := .cells #[.bool t208, .bool true, .int .i64 t210, .int .i64 t211, .int .i64 t212, .slice Ao11 t213.length co11] 27 (0, 0)) (by (with_reducible repeat (first | refine zzf ?_ _ | refine zzg ?_ | refine zze ?_ _)); exact BK217.out) hb); have n3_ := zzm (zzh (g := gb227) (o := .cells #[.bool t218, .bool t219, .int .i64 t220, .int .i64 t221, .int .i64 t222, .slice Ao16 t223.length co16] 27 (0, 0)) (by (with_reducible repeat (first | refine zzf ?_ _ | refine zzg ?_ | refine zze ?_ _)); exact BK227.out) hb); have n4_ := zzm (zzp (by repeat (first | (with_reducible first | exact HB.out | apply zza | apply zzb | apply zzc | refine zzd ?_ GE217.out | refine zzd ?_ GE227.out) | exact HB.out)) hb); clear HO_218005 HO_228005 BK217 BK227 HB; have HO_218005 := n0_; have HO_228005 := n1_; have BK217 := n2_; have BK227 := n3_; have HB := n4_; clear n0_ n1_ n2_ n3_ n4_; (try clear hb); (try clear hb2); (try clear hk); (try clear hi); obtain ⟨hcz45_0, hcz45_1, hcz45_2, hcz45_3, hcz45_4, hcz45_5, hfz45_0, hfz45_1, hfz45_2, hfz45_3, hfz45_4, hfz45_5⟩ := zzc6 BK217.out; have p231 : 0 ≤ (0 : Int) := (by omega); have q231 : 0 < (t213.length : Int) := of_decide_eq_true (by first | (with_reducible assumption) | assumption); obtain ⟨ad231, A231_3, c231_3, A231_5, c231_5, e231, hx231_0, hx231_1, hx231_2, hx231_3, hx231_4, hx231_5, hl231_3, hi231_3, hl231_5, hi231_5⟩ := at_T34 (Kd.N_reads' HO_218005.out).2.2 0 p231 q231; cases e231; obtain ⟨ce231, hce231, hMe231, hcc231⟩ := Kd.N_get HO_218005.out z34 0 p231 (by first | exact q231 | exact of_decide_eq_true (by first | (with_reducible assumption) | assumption) | (have e_ := (Kd.N_reads' HO_218005.out).1; omega)); obtain ⟨ua231_3, uc231_3, ua231_5, uc231_5, rfl, ul231_3, ge231_3, ul231_5, ge231_5⟩ := k34_openF hMe231; have hv231_3 := hcc231 3 _ rfl; rw [add_field _ _ 3 (by omega)] at hv231_3; replace hv231_3 := Option.some.inj (hv231_3.symm.trans hx231_3); injection hv231_3 with hva_ hvn_ hvc_; rw [hva_] at ge231_3; rw [hvc_] at ul231_3; have HL231_3 := zzm (show Kd.V (Kd.int .i64) 3 _ w.heap.size _ _ ((rd_T34 t213 0).f3) from Kd.V_mk ul231_3 ge231_3); clear hva_ hvn_ hvc_ ge231_3 ul231_3; have hv231_5 := hcc231 5 _ rfl; rw [add_field _ _ 5 (by omega)] at hv231_5; replace hv231_5 := Option.some.inj (hv231_5.symm.trans hx231_5); injection hv231_5 with hva_ hvn_ hvc_; rw [hva_] at ge231_5; rw [hvc_] at ul231_5; have HL231_5 := zzm (show Kd.V (Kd.int .i64) 3 _ w.heap.size _ _ ((rd_T34 t213 0).f5) from Kd.V_mk ul231_5 ge231_5); clear hva_ hvn_ hvc_ ge231_5 ul231_5 hcc231 hce231; have qi231 : (0 < t213.length) = True := eq_true (by omega); (try rw [show ((0 : Int)).toNat = 0 from rfl] at hx231_0); (try rw [show 0 * 6 = 0 from rfl] at hx231_0); (try rw [Addr.add_zero'] at hx231_0); (try rw [show ((0 : Int)).toNat = 0 from rfl] at hx231_1); (try rw [show 0 * 6 = 0 from rfl] at hx231_1); (try rw [Addr.add_zero'] at hx231_1); (try rw [show ((0 : Int)).toNat = 0 from rfl] at hx231_2); (try rw [show 0 * 6 = 0 from rfl] at hx231_2); (try rw [Addr.add_zero'] at hx231_2); (try rw [show ((0 : Int)).toNat = 0 from rfl] at hx231_3); (try rw [show 0 * 6 = 0 from rfl] at hx231_3); (try rw [Addr.add_zero'] at hx231_3); (try rw [show ((0 : Int)).toNat = 0 from rfl] at hx231_4); (try rw [show 0 * 6 = 0 from rfl] at hx231_4); (try rw [Addr.add_zero'] at hx231_4); (try rw [show ((0 : Int)).toNat = 0 from rfl] at hx231_5); (try rw [show 0 * 6 = 0 from rfl] at hx231_5); (try rw [Addr.add_zero'] at hx231_5); have HR231_3 := zzm hi231_3; have HC231_3 := zzm hl231_3; clear hi231_3 hl231_3; have HR231_5 := zzm hi231_5; have HC231_5 := zzm hl231_5; clear hi231_5 hl231_5; replace p231 := eq_true p231; replace q231 := eq_true q231))
           go_ret
           exact ⟨by first | rfl | (simp [errW_none, errW_some] <;> rfl) | (simp [*, errW_none, errW_some] <;> rfl), by repeat (first | (with_reducible first | exact HB.out | apply zza | apply zzb | apply zzc | refine zzd ?_ GE217.out | refine zzd ?_ GE227.out) | exact HB.out)⟩
          ·
           rw [if_neg c41] at H
           exact absurd H (by simp)
         ·
          rw [if_neg c40] at H
          have c40b0 : ((t213.length : Int) == 1) = false := beq_eq_false_iff_ne.mpr c40
          have c40b1 : ((t213.length : Int) != 1) = true := bne_iff_ne.mpr c40
          obtain rfl := Option.some.inj H
          have hnb46 := NB217_227.out
          have hnc46 := NB227_217.out
          obtain ⟨hcz47_0, hcz47_1, hcz47_2, hcz47_3, hcz47_4, hcz47_5, hfz47_0, hfz47_1, hfz47_2, hfz47_3, hfz47_4, hfz47_5⟩ := zzc6 BK217.out
          go_wp2_with (first | ((with_reducible refine gate_callee (f := 22) rfl ?_); refine goesL_ (some 63) rfl rfl Try.func22 (by kernel_rfl) rfl #[.agg #[.bool t208, .bool true, .int .i64 t210, .int .i64 t211, .int .i64 t212, .slice Ao11 t213.length co11]] rfl (by (try simp only [List.map_toArray, List.map_cons, List.map_nil]); first | done | rfl | (simp only [List.length_drop, List.length_take]; rfl)) ?_; (with_reducible refine (impl_BatchValid.calls kj5 t208 true t210 t211 t212 _ _ t213 true _ ?side1 ?side2 A35.out).mono ?_); (case side1 => repeat (first | exact (Kd.N_reads' HO_218005.out).2.2 | (with_reducible refine Kd.C_alloc ?_ _) | (with_reducible refine Kd.C_drewN ?_ _) | (with_reducible refine Kd.C_drew ?_))); (case side2 => exact (Kd.N_reads' HO_218005.out).2.1); rintro e w48 ⟨rfl, hb⟩; refine ⟨_, rfl, ?_⟩; have n0_ := zzm (Kd.N_below (by (with_reducible repeat (first | apply Kd.N_alloc | apply Kd.N_drewN | apply Kd.N_drew)); exact HO_218005.out) hb); have n1_ := zzm (Kd.N_below (by (with_reducible repeat (first | apply Kd.N_alloc | apply Kd.N_drewN | apply Kd.N_drew)); exact HO_228005.out) hb); have n2_ := zzm (zzh (g := gb217) (o := .cells #[.bool t208, .bool true, .int .i64 t210, .int .i64 t211, .int .i64 t212, .slice Ao11 t213.length co11] 27 (0, 0)) (by (with_reducible repeat (first | refine zzf ?_ _ | refine zzg ?_ | refine zze ?_ _)); exact BK217.out) hb); have n3_ := zzm (zzh (g := gb227) (o := .cells #[.bool t218, .bool t219, .int .i64 t220, .int .i64 t221, .int .i64 t222, .slice Ao16 t223.length co16] 27 (0, 0)) (by (with_reducible repeat (first | refine zzf ?_ _ | refine zzg ?_ | refine zze ?_ _)); exact BK227.out) hb); have n4_ := zzm (zzp (by repeat (first | (with_reducible first | exact HB.out | apply zza | apply zzb | apply zzc | refine zzd ?_ GE217.out | refine zzd ?_ GE227.out) | exact HB.out)) hb); clear HO_218005 HO_228005 BK217 BK227 HB; have HO_218005 := n0_; have HO_228005 := n1_; have BK217 := n2_; have BK227 := n3_; have HB := n4_; clear n0_ n1_ n2_ n3_ n4_; (try clear hb); (try clear hb2); (try clear hk); (try clear hi); obtain ⟨hcz49_0, hcz49_1, hcz49_2, hcz49_3, hcz49_4, hcz49_5, hfz49_0, hfz49_1, hfz49_2, hfz49_3, hfz49_4, hfz49_5⟩ := zzc6 BK217.out))
          go_ret
          exact ⟨by first | rfl | (simp [errW_none, errW_some] <;> rfl) | (simp [*, errW_none, errW_some] <;> rfl), by repeat (first | (with_reducible first | exact HB.out | apply zza | apply zzb | apply zzc | refine zzd ?_ GE217.out | refine zzd ?_ GE227.out) | exact HB.out)⟩
        ·
         rw [if_neg c39] at H
         have c39b0 : (t211 == t204) = false := beq_eq_false_iff_ne.mpr c39
         have c39b1 : (t211 != t204) = true := bne_iff_ne.mpr c39
         obtain rfl := Option.some.inj H
         have hnb50 := NB217_227.out
         have hnc50 := NB227_217.out
         obtain ⟨hcz51_0, hcz51_1, hcz51_2, hcz51_3, hcz51_4, hcz51_5, hfz51_0, hfz51_1, hfz51_2, hfz51_3, hfz51_4, hfz51_5⟩ := zzc6 BK217.out
         go_wp2_with (first | ((with_reducible refine gate_callee (f := 22) rfl ?_); refine goesL_ (some 63) rfl rfl Try.func22 (by kernel_rfl) rfl #[.agg #[.bool t208, .bool true, .int .i64 t210, .int .i64 t211, .int .i64 t212, .slice Ao11 t213.length co11]] rfl (by (try simp only [List.map_toArray, List.map_cons, List.map_nil]); first | done | rfl | (simp only [List.length_drop, List.length_take]; rfl)) ?_; (with_reducible refine (impl_BatchValid.calls kj5 t208 true t210 t211 t212 _ _ t213 true _ ?side1 ?side2 A35.out).mono ?_); (case side1 => repeat (first | exact (Kd.N_reads' HO_218005.out).2.2 | (with_reducible refine Kd.C_alloc ?_ _) | (with_reducible refine Kd.C_drewN ?_ _) | (with_reducible refine Kd.C_drew ?_))); (case side2 => exact (Kd.N_reads' HO_218005.out).2.1); rintro e w52 ⟨rfl, hb⟩; refine ⟨_, rfl, ?_⟩; have n0_ := zzm (Kd.N_below (by (with_reducible repeat (first | apply Kd.N_alloc | apply Kd.N_drewN | apply Kd.N_drew)); exact HO_218005.out) hb); have n1_ := zzm (Kd.N_below (by (with_reducible repeat (first | apply Kd.N_alloc | apply Kd.N_drewN | apply Kd.N_drew)); exact HO_228005.out) hb); have n2_ := zzm (zzh (g := gb217) (o := .cells #[.bool t208, .bool true, .int .i64 t210, .int .i64 t211, .int .i64 t212, .slice Ao11 t213.length co11] 27 (0, 0)) (by (with_reducible repeat (first | refine zzf ?_ _ | refine zzg ?_ | refine zze ?_ _)); exact BK217.out) hb); have n3_ := zzm (zzh (g := gb227) (o := .cells #[.bool t218, .bool t219, .int .i64 t220, .int .i64 t221, .int .i64 t222, .slice Ao16 t223.length co16] 27 (0, 0)) (by (with_reducible repeat (first | refine zzf ?_ _ | refine zzg ?_ | refine zze ?_ _)); exact BK227.out) hb); have n4_ := zzm (zzp (by repeat (first | (with_reducible first | exact HB.out | apply zza | apply zzb | apply zzc | refine zzd ?_ GE217.out | refine zzd ?_ GE227.out) | exact HB.out)) hb); clear HO_218005 HO_228005 BK217 BK227 HB; have HO_218005 := n0_; have HO_228005 := n1_; have BK217 := n2_; have BK227 := n3_; have HB := n4_; clear n0_ n1_ n2_ n3_ n4_; (try clear hb); (try clear hb2); (try clear hk); (try clear hi); obtain ⟨hcz53_0, hcz53_1, hcz53_2, hcz53_3, hcz53_4, hcz53_5, hfz53_0, hfz53_1, hfz53_2, hfz53_3, hfz53_4, hfz53_5⟩ := zzc6 BK217.out))
         go_ret
         exact ⟨by first | rfl | (simp [errW_none, errW_some] <;> rfl) | (simp [*, errW_none, errW_some] <;> rfl), by repeat (first | (with_reducible first | exact HB.out | apply zza | apply zzb | apply zzc | refine zzd ?_ GE217.out | refine zzd ?_ GE227.out) | exact HB.out)⟩
       ·
        rw [if_neg c38] at H
        have c38b0 : (t210 == t203) = false := beq_eq_false_iff_ne.mpr c38
        have c38b1 : (t210 != t203) = true := bne_iff_ne.mpr c38
        obtain rfl := Option.some.inj H
        have hnb54 := NB217_227.out
        have hnc54 := NB227_217.out
        obtain ⟨hcz55_0, hcz55_1, hcz55_2, hcz55_3, hcz55_4, hcz55_5, hfz55_0, hfz55_1, hfz55_2, hfz55_3, hfz55_4, hfz55_5⟩ := zzc6 BK217.out
        go_wp2_with (first | ((with_reducible refine gate_callee (f := 22) rfl ?_); refine goesL_ (some 63) rfl rfl Try.func22 (by kernel_rfl) rfl #[.agg #[.bool t208, .bool true, .int .i64 t210, .int .i64 t211, .int .i64 t212, .slice Ao11 t213.length co11]] rfl (by (try simp only [List.map_toArray, List.map_cons, List.map_nil]); first | done | rfl | (simp only [List.length_drop, List.length_take]; rfl)) ?_; (with_reducible refine (impl_BatchValid.calls kj5 t208 true t210 t211 t212 _ _ t213 true _ ?side1 ?side2 A35.out).mono ?_); (case side1 => repeat (first | exact (Kd.N_reads' HO_218005.out).2.2 | (with_reducible refine Kd.C_alloc ?_ _) | (with_reducible refine Kd.C_drewN ?_ _) | (with_reducible refine Kd.C_drew ?_))); (case side2 => exact (Kd.N_reads' HO_218005.out).2.1); rintro e w56 ⟨rfl, hb⟩; refine ⟨_, rfl, ?_⟩; have n0_ := zzm (Kd.N_below (by (with_reducible repeat (first | apply Kd.N_alloc | apply Kd.N_drewN | apply Kd.N_drew)); exact HO_218005.out) hb); have n1_ := zzm (Kd.N_below (by (with_reducible repeat (first | apply Kd.N_alloc | apply Kd.N_drewN | apply Kd.N_drew)); exact HO_228005.out) hb); have n2_ := zzm (zzh (g := gb217) (o := .cells #[.bool t208, .bool true, .int .i64 t210, .int .i64 t211, .int .i64 t212, .slice Ao11 t213.length co11] 27 (0, 0)) (by (with_reducible repeat (first | refine zzf ?_ _ | refine zzg ?_ | refine zze ?_ _)); exact BK217.out) hb); have n3_ := zzm (zzh (g := gb227) (o := .cells #[.bool t218, .bool t219, .int .i64 t220, .int .i64 t221, .int .i64 t222, .slice Ao16 t223.length co16] 27 (0, 0)) (by (with_reducible repeat (first | refine zzf ?_ _ | refine zzg ?_ | refine zze ?_ _)); exact BK227.out) hb); have n4_ := zzm (zzp (by repeat (first | (with_reducible first | exact HB.out | apply zza | apply zzb | apply zzc | refine zzd ?_ GE217.out | refine zzd ?_ GE227.out) | exact HB.out)) hb); clear HO_218005 HO_228005 BK217 BK227 HB; have HO_218005 := n0_; have HO_228005 := n1_; have BK217 := n2_; have BK227 := n3_; have HB := n4_; clear n0_ n1_ n2_ n3_ n4_; (try clear hb); (try clear hb2); (try clear hk); (try clear hi); obtain ⟨hcz57_0, hcz57_1, hcz57_2, hcz57_3, hcz57_4, hcz57_5, hfz57_0, hfz57_1, hfz57_2, hfz57_3, hfz57_4, hfz57_5⟩ := zzc6 BK217.out))
        go_ret
        exact ⟨by first | rfl | (simp [errW_none, errW_some] <;> rfl) | (simp [*, errW_none, errW_some] <;> rfl), by repeat (first | (with_reducible first | exact HB.out | apply zza | apply zzb | apply zzc | refine zzd ?_ GE217.out | refine zzd ?_ GE227.out) | exact HB.out)⟩
      ·
       replace c37 := Bool.eq_false_iff.mpr c37
       subst c37
       have H1 : (some false) = some r := by rw [if_neg (show ¬ (false = true) by decide)] at H; exact H
       clear H
       have H := H1
       clear H1
       obtain rfl := Option.some.inj H
       have hnb58 := NB217_227.out
       have hnc58 := NB227_217.out
       obtain ⟨hcz59_0, hcz59_1, hcz59_2, hcz59_3, hcz59_4, hcz59_5, hfz59_0, hfz59_1, hfz59_2, hfz59_3, hfz59_4, hfz59_5⟩ := zzc6 BK217.out
       go_wp2_with (first | ((with_reducible refine gate_callee (f := 22) rfl ?_); refine goesL_ (some 63) rfl rfl Try.func22 (by kernel_rfl) rfl #[.agg #[.bool t208, .bool false, .int .i64 t210, .int .i64 t211, .int .i64 t212, .slice Ao11 t213.length co11]] rfl (by (try simp only [List.map_toArray, List.map_cons, List.map_nil]); first | done | rfl | (simp only [List.length_drop, List.length_take]; rfl)) ?_; (with_reducible refine (impl_BatchValid.calls kj5 t208 false t210 t211 t212 _ _ t213 true _ ?side1 ?side2 A35.out).mono ?_); (case side1 => repeat (first | exact (Kd.N_reads' HO_218005.out).2.2 | (with_reducible refine Kd.C_alloc ?_ _) | (with_reducible refine Kd.C_drewN ?_ _) | (with_reducible refine Kd.C_drew ?_))); (case side2 => exact (Kd.N_reads' HO_218005.out).2.1); rintro e w60 ⟨rfl, hb⟩; refine ⟨_, rfl, ?_⟩; have n0_ := zzm (Kd.N_below (by (with_reducible repeat (first | apply Kd.N_alloc | apply Kd.N_drewN | apply Kd.N_drew)); exact HO_218005.out) hb); have n1_ := zzm (Kd.N_below (by (with_reducible repeat (first | apply Kd.N_alloc | apply Kd.N_drewN | apply Kd.N_drew)); exact HO_228005.out) hb); have n2_ := zzm (zzh (g := gb217) (o := .cells #[.bool t208, .bool false, .int .i64 t210, .int .i64 t211, .int .i64 t212, .slice Ao11 t213.length co11] 27 (0, 0)) (by (with_reducible repeat (first | refine zzf ?_ _ | refine zzg ?_ | refine zze ?_ _)); exact BK217.out) hb); have n3_ := zzm (zzh (g := gb227) (o := .cells #[.bool t218, .bool t219, .int .i64 t220, .int .i64 t221, .int .i64 t222, .slice Ao16 t223.length co16] 27 (0, 0)) (by (with_reducible repeat (first | refine zzf ?_ _ | refine zzg ?_ | refine zze ?_ _)); exact BK227.out) hb); have n4_ := zzm (zzp (by repeat (first | (with_reducible first | exact HB.out | apply zza | apply zzb | apply zzc | refine zzd ?_ GE217.out | refine zzd ?_ GE227.out) | exact HB.out)) hb); clear HO_218005 HO_228005 BK217 BK227 HB; have HO_218005 := n0_; have HO_228005 := n1_; have BK217 := n2_; have BK227 := n3_; have HB := n4_; clear n0_ n1_ n2_ n3_ n4_; (try clear hb); (try clear hb2); (try clear hk); (try clear hi); obtain ⟨hcz61_0, hcz61_1, hcz61_2, hcz61_3, hcz61_4, hcz61_5, hfz61_0, hfz61_1, hfz61_2, hfz61_3, hfz61_4, hfz61_5⟩ := zzc6 BK217.out))
       go_ret
       exact ⟨by first | rfl | (simp [errW_none, errW_some] <;> rfl) | (simp [*, errW_none, errW_some] <;> rfl), by repeat (first | (with_reducible first | exact HB.out | apply zza | apply zzb | apply zzc | refine zzd ?_ GE217.out | refine zzd ?_ GE227.out) | exact HB.out)⟩
     ·
      replace c36 := Bool.eq_false_iff.mpr c36
      subst c36
      have H1 : (some false) = some r := by rw [if_neg (show ¬ (false = true) by decide)] at H; exact H
      clear H
      have H := H1
      clear H1
      obtain rfl := Option.some.inj H
      have hnb62 := NB217_227.out
      have hnc62 := NB227_217.out
      obtain ⟨hcz63_0, hcz63_1, hcz63_2, hcz63_3, hcz63_4, hcz63_5, hfz63_0, hfz63_1, hfz63_2, hfz63_3, hfz63_4, hfz63_5⟩ := zzc6 BK217.out
      go_wp2_with (first | ((with_reducible refine gate_callee (f := 22) rfl ?_); refine goesL_ (some 63) rfl rfl Try.func22 (by kernel_rfl) rfl #[.agg #[.bool t208, .bool t209, .int .i64 t210, .int .i64 t211, .int .i64 t212, .slice Ao11 t213.length co11]] rfl (by (try simp only [List.map_toArray, List.map_cons, List.map_nil]); first | done | rfl | (simp only [List.length_drop, List.length_take]; rfl)) ?_; (with_reducible refine (impl_BatchValid.calls kj5 t208 t209 t210 t211 t212 _ _ t213 false _ ?side1 ?side2 A35.out).mono ?_); (case side1 => repeat (first | exact (Kd.N_reads' HO_218005.out).2.2 | (with_reducible refine Kd.C_alloc ?_ _) | (with_reducible refine Kd.C_drewN ?_ _) | (with_reducible refine Kd.C_drew ?_))); (case side2 => exact (Kd.N_reads' HO_218005.out).2.1); rintro e w64 ⟨rfl, hb⟩; refine ⟨_, rfl, ?_⟩; have n0_ := zzm (Kd.N_below (by (with_reducible repeat (first | apply Kd.N_alloc | apply Kd.N_drewN | apply Kd.N_drew)); exact HO_218005.out) hb); have n1_ := zzm (Kd.N_below (by (with_reducible repeat (first | apply Kd.N_alloc | apply Kd.N_drewN | apply Kd.N_drew)); exact HO_228005.out) hb); have n2_ := zzm (zzh (g := gb217) (o := .cells #[.bool t208, .bool t209, .int .i64 t210, .int .i64 t211, .int .i64 t212, .slice Ao11 t213.length co11] 27 (0, 0)) (by (with_reducible repeat (first | refine zzf ?_ _ | refine zzg ?_ | refine zze ?_ _)); exact BK217.out) hb); have n3_ := zzm (zzh (g := gb227) (o := .cells #[.bool t218, .bool t219, .int .i64 t220, .int .i64 t221, .int .i64 t222, .slice Ao16 t223.length co16] 27 (0, 0)) (by (with_reducible repeat (first | refine zzf ?_ _ | refine zzg ?_ | refine zze ?_ _)); exact BK227.out) hb); have n4_ := zzm (zzp (by repeat (first | (with_reducible first | exact HB.out | apply zza | apply zzb | apply zzc | refine zzd ?_ GE217.out | refine zzd ?_ GE227.out) | exact HB.out)) hb); clear HO_218005 HO_228005 BK217 BK227 HB; have HO_218005 := n0_; have HO_228005 := n1_; have BK217 := n2_; have BK227 := n3_; have HB := n4_; clear n0_ n1_ n2_ n3_ n4_; (try clear hb); (try clear hb2); (try clear hk); (try clear hi)))
      go_ret
      exact ⟨by first | rfl | (simp [errW_none, errW_some] <;> rfl) | (simp [*, errW_none, errW_some] <;> rfl), by repeat (first | (with_reducible first | exact HB.out | apply zza | apply zzb | apply zzc | refine zzd ?_ GE217.out | refine zzd ?_ GE227.out) | exact HB.out)⟩
def laws_FnMarkBatch.Pure : Prop := ∀ (l0 : List Int), l0.length ≤ maxLen → l0.length * 1 ≤ 140737488351232 → (∀ x ∈ l0, (Lit.int .u8 x).wf = true) → ∃ k, laws_FnMarkBatch.f k l0 = some true
theorem laws_FnMarkBatch.walk (P : laws_FnMarkBatch.Pure) (a0 : Option Addr) (len0 cap0 : Nat) (z0 : List Int) (w : World) (w0 : (a0 = none ∧ len0 = 0 ∧ cap0 = 0 ∧ z0 = []) ∨ ∃ x, a0 = some x ∧ len0 ≤ cap0 ∧ cap0 ≤ maxLen ∧ z0.length = cap0 ∧ (∀ i, i < z0.length → w.cell? (x.add i) = some (.int .u8 (z0.getD i 0))) ∧ ∀ n ∈ z0, (Lit.int .u8 n).wf = true) (y0 : len0 * 1 ≤ 140737488351232) :
  Calls Try.prog 3 #[.slice a0 len0 cap0] w fun e w' => e = .returned (.bool true) ∧ Below w.heap.size w w' := by
 obtain ⟨l0, rfl, hr0, hm0, hw0, hc0⟩ := ReadsInt.ofRowC w0
 obtain ⟨k, h⟩ := P l0 hm0 y0 hw0
 refine (laws_FnMarkBatch.calls k _ _ l0 true w (Kd.C_of_reads (d := (0 : Int)) (h1 := fun _ => rfl) hr0) hc0 h).mono ?_
 rintro e w' ⟨rfl, hd⟩
 exact ⟨rfl, hd⟩
end Go.Proofs.Yticpnjhkdfdkkaa.T
namespace Go.Proofs.Yticpnjhkdfdkkaa.Q
open Go.RowKit Go.Proofs.YticpnjhkdfdkkaaW.PrintWords
set_option linter.unusedVariables false
set_option linter.unusedSimpArgs false
theorem ev_succ {α : Type} {g : Nat → Option α} {r : α} (h : Ev (fun k => g (k + 1)) r) : Ev g r := Ev.step (f := fun k => g (k + 1)) (fun _ => rfl) h
theorem ev_of_all {α : Type} {g : Nat → Option α} {r : α} (h : ∀ k, g k = some r) : Ev g r := ⟨0, fun k _ => h k⟩
theorem ev_some {α : Type} (r : α) : Ev (fun _ => some r) r := ev_of_all fun _ => rfl
def Evs {α : Type} (g : Nat → Option α) (Q : α → Prop) : Prop := ∃ r, Ev g r ∧ Q r
theorem Evs.of {α : Type} {g : Nat → Option α} {Q : α → Prop} {r : α} (h : Ev g r) (hq : Q r) : Evs g Q := ⟨r, h, hq⟩
theorem Evs.done {α : Type} {Q : α → Prop} {r : α} (hq : Q r) : Evs (fun _ => some r) Q := ⟨r, ev_some r, hq⟩
theorem Evs.mono {α : Type} {g : Nat → Option α} {Q Q' : α → Prop} (h : Evs g Q) (hq : ∀ r, Q r → Q' r) : Evs g Q' := by
  obtain ⟨r, h1, h2⟩ := h
  exact ⟨r, h1, hq r h2⟩
theorem Evs.succ {α : Type} {g : Nat → Option α} {Q : α → Prop} (h : Evs (fun k => g (k + 1)) Q) : Evs g Q := by
  obtain ⟨r, h1, h2⟩ := h
  exact ⟨r, ev_succ h1, h2⟩
theorem Evs.bind {α β : Type} {g : Nat → Option α} {f : Nat → α → Option β} {Q : α → Prop} {R : β → Prop} (h : Evs g Q) (k : ∀ a, Q a → Evs (fun n => f n a) R) : Evs (fun n => (g n).bind (f n)) R := by
  obtain ⟨a, h1, h2⟩ := h
  obtain ⟨r, k1, k2⟩ := k a h2
  exact ⟨r, Ev.bind h1 k1, k2⟩
theorem bsome {α β : Type} (a : α) (f : α → Option β) : (some a).bind f = f a := Eq.trans (Option.bind_some a f) (Eq.refl _)
end Go.Proofs.Yticpnjhkdfdkkaa.Q
namespace Go.Proofs.Yticpnjhkdfdkkaa.Q
open Go.RowKit Go.Proofs.Yticpnjhkdfdkkaa.T Go.Proofs.YticpnjhkdfdkkaaW.PrintWords Go.Proofs.YticpnjhkdfdkkaaW.PrintLast
set_option linter.unusedVariables false
set_option linter.unusedSimpArgs false
theorem wrap_id {x : Int} (h0 : -9223372036854775808 ≤ x) (h1 : x < 9223372036854775808) : wrap64 x = x := by unfold wrap64; omega
theorem tmod_range {x n : Int} (h : 0 ≤ x) (hn : 1 ≤ n) : 0 ≤ Int.tmod x n ∧ Int.tmod x n < n := by
  rw [Int.tmod_eq_emod_of_nonneg h]
  exact ⟨Int.emod_nonneg _ (by omega), Int.emod_lt_of_pos _ (by omega)⟩
theorem xor_nonneg {a b : Int} (h1 : 0 ≤ a) (h2 : a < 4611686018427387904) (h3 : 0 ≤ b) (h4 : b < 4611686018427387904) : 0 ≤ Go.bits .xor .i64 a b := by
  obtain ⟨A, rfl⟩ := Int.eq_ofNat_of_zero_le h1
  obtain ⟨B, rfl⟩ := Int.eq_ofNat_of_zero_le h3
  have hx : A ^^^ B < 2 ^ 62 := Nat.xor_lt_two_pow (by omega) (by omega)
  have e1 : (BitVec.ofInt 64 (A : Int)).toNat = A := by
    rw [BitVec.ofInt_natCast, BitVec.toNat_ofNat]; exact Nat.mod_eq_of_lt (by omega)
  have e2 : (BitVec.ofInt 64 (B : Int)).toNat = B := by
    rw [BitVec.ofInt_natCast, BitVec.toNat_ofNat]; exact Nat.mod_eq_of_lt (by omega)
  show 0 ≤ IntKind.i64.wrap ((BitVec.ofInt 64 (A : Int) ^^^ BitVec.ofInt 64 (B : Int)).toNat : Int)
  rw [BitVec.toNat_xor, e1, e2]
  simp only [IntKind.wrap, IntKind.bits, IntKind.signed]
  simp
  omega
def Bytes (b : List Int) : Prop := ∀ x ∈ b, 0 ≤ x ∧ x ≤ 255
theorem rd_bytes {b : List Int} (h : Bytes b) (i : Int) : 0 ≤ rd b i ∧ rd b i ≤ 255 := by
  unfold rd
  rw [List.getD_eq_getElem?_getD]
  cases e : b[i.toNat]? with
  | none => simp
  | some x => exact h x (List.mem_of_getElem? e)
theorem pick_ev (b : List Int) (p n : Int) (hb : Bytes b) (hl : b.length ≤ 2000) (h0 : 0 ≤ p) (h1 : p ≤ 1000000000) (hn : 1 ≤ n) :
    ∃ v, Ev (fun k => spec_l6Rd_pick.f k b p n) (v, p + 1) ∧ 0 ≤ v ∧ v < n := by
  have e1 : wrap64 (p + 1) = p + 1 := wrap_id (by omega) (by omega)
  have e2 : wrap64 (p + 1 - 1) = p := by rw [wrap_id (by omega) (by omega)]; omega
  by_cases hz : b.length = 0
  · refine ⟨0, ⟨1, fun k hk => ?_⟩, by omega, by omega⟩
    obtain ⟨k, rfl⟩ : ∃ m, k = m + 1 := ⟨k - 1, by omega⟩
    show spec_l6Rd_pick.f (k + 1) b p n = _
    unfold spec_l6Rd_pick.f
    rw [if_neg (by omega), e1]
    simp [spec_l6Rd_pick.j0, hz]
  · have hz' : (((b.length : Int) == 0) = true) = False := by simp; intro h; simp [h] at hz
    by_cases hlt : p < (b.length : Int)
    · obtain ⟨r0, r1⟩ := rd_bytes hb p
      have := tmod_range (x := rd b p) r0 hn
      refine ⟨Int.tmod (rd b p) n, ⟨1, fun k hk => ?_⟩, this.1, this.2⟩
      obtain ⟨k, rfl⟩ : ∃ m, k = m + 1 := ⟨k - 1, by omega⟩
      show spec_l6Rd_pick.f (k + 1) b p n = _
      unfold spec_l6Rd_pick.f
      rw [if_neg (by omega), e1]
      simp only [spec_l6Rd_pick.j0, e2, hz']
      rw [if_neg (by simp), if_pos hlt, if_pos h0, if_neg (by omega), wrap_id (by omega) (by omega)]
    · obtain ⟨q0, q1⟩ := tmod_range (x := p) (n := (b.length : Int)) h0 (by omega)
      obtain ⟨r0, r1⟩ := rd_bytes hb (Int.tmod p (b.length : Int))
      have f1 : wrap64 (p * 7) = p * 7 := wrap_id (by omega) (by omega)
      have f2 : wrap64 (p * 7 + 3) = p * 7 + 3 := wrap_id (by omega) (by omega)
      obtain ⟨q2, q3⟩ := tmod_range (x := p * 7 + 3) (n := (b.length : Int)) (by omega) (by omega)
      obtain ⟨r2, r3⟩ := rd_bytes hb (Int.tmod (p * 7 + 3) (b.length : Int))
      have d0 : 0 ≤ Int.tdiv p (b.length : Int) ∧ Int.tdiv p (b.length : Int) ≤ p := by
        rw [Int.tdiv_eq_ediv_of_nonneg h0]
        exact ⟨Int.ediv_nonneg h0 (by omega), Int.ediv_le_self _ h0⟩
      obtain ⟨x, hx⟩ : ∃ x, x = rd b (Int.tmod p (b.length : Int)) := ⟨_, rfl⟩
      obtain ⟨y, hy⟩ : ∃ y, y = rd b (Int.tmod (p * 7 + 3) (b.length : Int)) := ⟨_, rfl⟩
      obtain ⟨z, hz2⟩ : ∃ z, z = Int.tdiv p (b.length : Int) := ⟨_, rfl⟩
      obtain ⟨s, hs⟩ : ∃ s, s = x * 131 + y * 1117 + p * 29 + z * 53 := ⟨_, rfl⟩
      rw [← hx] at r0 r1
      rw [← hy] at r2 r3
      rw [← hz2] at d0
      have s0 : 0 ≤ s ∧ s < 4611686018427387904 := by omega
      have t0 : 0 ≤ Int.tdiv s 64 ∧ Int.tdiv s 64 ≤ s := by
        rw [Int.tdiv_eq_ediv_of_nonneg s0.1]
        exact ⟨Int.ediv_nonneg s0.1 (by omega), Int.ediv_le_self _ s0.1⟩
      have w1 : wrap64 x = x := wrap_id (by omega) (by omega)
      have w2 : wrap64 y = y := wrap_id (by omega) (by omega)
      have w3 : wrap64 z = z := wrap_id (by omega) (by omega)
      have w4 : wrap64 (x * 131) = x * 131 := wrap_id (by omega) (by omega)
      have w5 : wrap64 (y * 1117) = y * 1117 := wrap_id (by omega) (by omega)
      have w6 : wrap64 (p * 29) = p * 29 := wrap_id (by omega) (by omega)
      have w7 : wrap64 (z * 53) = z * 53 := wrap_id (by omega) (by omega)
      have w8 : wrap64 (x * 131 + y * 1117) = x * 131 + y * 1117 := wrap_id (by omega) (by omega)
      have w9 : wrap64 (x * 131 + y * 1117 + p * 29) = x * 131 + y * 1117 + p * 29 := wrap_id (by omega) (by omega)
      have wa : wrap64 (x * 131 + y * 1117 + p * 29 + z * 53) = s := by rw [hs]; exact wrap_id (by omega) (by omega)
      have wb : wrap64 (Int.tdiv s 64) = Int.tdiv s 64 := wrap_id (by omega) (by omega)
      have := tmod_range (x := Go.bits .xor .i64 s (Int.tdiv s 64)) (n := n) (xor_nonneg s0.1 s0.2 t0.1 (by omega)) hn
      refine ⟨_, ⟨1, fun k hk => ?_⟩, this.1, this.2⟩
      obtain ⟨k, rfl⟩ : ∃ m, k = m + 1 := ⟨k - 1, by omega⟩
      show spec_l6Rd_pick.f (k + 1) b p n = _
      unfold spec_l6Rd_pick.f
      rw [if_neg (by omega), e1]
      simp only [spec_l6Rd_pick.j0, e2, hz', f1, f2]
      rw [if_neg (by simp), if_neg hlt, if_neg (by omega), if_pos q0, if_pos q1, if_pos q2, if_pos q3, if_neg (by omega), ← hx, ← hy, ← hz2, w1, w2, w3, w4, w5, w6, w7, w8, w9, wa, wb]
theorem pick_evs (b : List Int) (p n : Int) (hb : Bytes b) (hl : b.length ≤ 2000) (h0 : 0 ≤ p) (h1 : p ≤ 1000000000) (hn : 1 ≤ n) :
    Evs (fun k => spec_l6Rd_pick.f k b p n) (fun r => 0 ≤ r.1 ∧ r.1 < n ∧ r.2 = p + 1) := by
  obtain ⟨v, h, v0, v1⟩ := pick_ev b p n hb hl h0 h1 hn
  exact ⟨_, h, v0, v1, rfl⟩
end Go.Proofs.Yticpnjhkdfdkkaa.Q
namespace Go.Proofs.Yticpnjhkdfdkkaa.Q
open Go.RowKit Go.Proofs.Yticpnjhkdfdkkaa.T Go.Proofs.YticpnjhkdfdkkaaW.PrintWords Go.Proofs.YticpnjhkdfdkkaaW.PrintLast
set_option linter.unusedVariables false
set_option linter.unusedSimpArgs false
theorem impl_within_eq (a b c : Int) : impl_within.f a b c = some (decide (b ≤ a ∧ a ≤ c)) := by
  unfold impl_within.f
  by_cases h : a ≥ b
  · rw [if_pos h]
    have : (b ≤ a ∧ a ≤ c) ↔ a ≤ c := ⟨fun h => h.2, fun h' => ⟨h, h'⟩⟩
    simp [this]
  · rw [if_neg h]
    have : ¬ (b ≤ a ∧ a ≤ c) := fun h' => h h'.1
    simp [this]
theorem spec_l6In_eq (a b c : Int) : spec_l6In.f a b c = some (decide (b ≤ a ∧ a ≤ c)) := by
  unfold spec_l6In.f
  by_cases h : a ≥ b
  · rw [if_pos h]
    have : (b ≤ a ∧ a ≤ c) ↔ a ≤ c := ⟨fun h => h.2, fun h' => ⟨h, h'⟩⟩
    simp [this]
  · rw [if_neg h]
    have : ¬ (b ≤ a ∧ a ≤ c) := fun h' => h h'.1
    simp [this]
end Go.Proofs.Yticpnjhkdfdkkaa.Q
namespace Go.Proofs.Yticpnjhkdfdkkaa.Q
open Go.RowKit Go.Proofs.Yticpnjhkdfdkkaa.T Go.Proofs.YticpnjhkdfdkkaaW.PrintWords Go.Proofs.YticpnjhkdfdkkaaW.PrintLast
set_option linter.unusedVariables false
set_option linter.unusedSimpArgs false
theorem rd_nat (l : List Int) (j : Nat) (h : j < l.length) : rd l (j : Int) = l[j] := by
  unfold rd
  rw [Int.toNat_natCast, List.getD_eq_getElem?_getD, List.getElem?_eq_getElem h]
  rfl
theorem drop_int {l : List Int} {i : Nat} (h : i < l.length) : l.drop i = rd l i :: l.drop (i + 1) := by
  rw [List.drop_eq_getElem_cons h, rd_nat l i h]
def ab (l : List Int) : Bool := decide (∀ x ∈ l, 0 ≤ x ∧ x ≤ 255)
theorem ab_cons (x : Int) (l : List Int) : ab (x :: l) = (decide (0 ≤ x ∧ x ≤ 255) && ab l) := by
  rw [Bool.eq_iff_iff]
  simp [ab, List.forall_mem_cons]
theorem ab_nil : ab [] = true := by simp [ab]
theorem isByte_eq (a : Int) : impl_isByte.f a = some (decide (0 ≤ a ∧ a ≤ 255)) := by
  unfold impl_isByte.f
  by_cases h : a ≥ 0
  · rw [if_pos h]
    have : (0 ≤ a ∧ a ≤ 255) ↔ a ≤ 255 := ⟨fun h => h.2, fun h' => ⟨h, h'⟩⟩
    simp [this]
  · rw [if_neg h]
    have : ¬ (0 ≤ a ∧ a ≤ 255) := fun h' => h h'.1
    simp [this]
theorem baseValid_eq (a b : Int) : impl_baseValid.f a b = some (decide ((0 ≤ a ∧ a ≤ 99999) ∧ (0 ≤ b ∧ b ≤ 99999))) := by
  unfold impl_baseValid.f
  rw [impl_within_eq, impl_within_eq]
  by_cases h : 0 ≤ a ∧ a ≤ 99999 <;> simp [h]
theorem idValid_eqB (a : Int) : impl_idValid.f a = some (decide (0 ≤ a ∧ a ≤ 254)) := by
  unfold impl_idValid.f
  rw [impl_within_eq]
  rfl
theorem implAll_loop (l : List Int) (hl : l.length ≤ 1000000000000000) : ∀ (d i : Nat), l.length - i = d → i ≤ l.length → Ev (fun k => impl_allBytes.l0 k l (l.length : Int) (i : Int)) (ab (l.drop i)) := by
  intro d
  induction d with
  | zero =>
    intro i hd hi
    rw [show l.drop i = [] from List.drop_eq_nil_of_le (by omega), ab_nil]
    refine ev_succ ?_
    simp only [impl_allBytes.l0, if_neg (show ¬ (i : Int) < (l.length : Int) by omega)]
    exact ev_some _
  | succ d ih =>
    intro i hd hi
    have e1 : wrap64 ((i : Int) + 1) = ((i + 1 : Nat) : Int) := by rw [wrap_id (by omega) (by omega)]; omega
    rw [drop_int (show i < l.length by omega), ab_cons]
    refine ev_succ ?_
    simp only [impl_allBytes.l0, if_pos (show (i : Int) < (l.length : Int) by omega), if_pos (show (0 : Int) ≤ i by omega), isByte_eq, bsome, decide_eq_true_eq, e1]
    by_cases h : 0 ≤ rd l (i : Int) ∧ rd l (i : Int) ≤ 255
    · simp only [if_pos h, decide_eq_true h, Bool.true_and]
      exact ih (i + 1) (by omega) (by omega)
    · simp only [if_neg h, decide_eq_false h, Bool.false_and]
      exact ev_some _
theorem implAll (l : List Int) (hl : l.length ≤ 1000000000000000) : Ev (fun k => impl_allBytes.f k l) (ab l) := by
  unfold impl_allBytes.f
  have := implAll_loop l hl l.length 0 (by omega) (by omega)
  simpa using this
theorem specAll_loop (l : List Int) (hl : l.length ≤ 1000000000000000) : ∀ (d i : Nat), l.length - i = d → i ≤ l.length → Ev (fun k => spec_l1Ok.l0 k l (i : Int)) (ab (l.drop i)) := by
  intro d
  induction d with
  | zero =>
    intro i hd hi
    rw [show l.drop i = [] from List.drop_eq_nil_of_le (by omega), ab_nil]
    refine ev_succ ?_
    simp only [spec_l1Ok.l0, if_neg (show ¬ (i : Int) < (l.length : Int) by omega)]
    exact ev_some _
  | succ d ih =>
    intro i hd hi
    have e1 : wrap64 ((i : Int) + 1) = ((i + 1 : Nat) : Int) := by rw [wrap_id (by omega) (by omega)]; omega
    rw [drop_int (show i < l.length by omega), ab_cons]
    refine ev_succ ?_
    simp only [spec_l1Ok.l0, if_pos (show (i : Int) < (l.length : Int) by omega), if_pos (show (0 : Int) ≤ i by omega), spec_l6In_eq, bsome, decide_eq_true_eq, e1]
    by_cases h : 0 ≤ rd l (i : Int) ∧ rd l (i : Int) ≤ 255
    · simp only [if_pos h, decide_eq_true h, Bool.true_and]
      exact ih (i + 1) (by omega) (by omega)
    · simp only [if_neg h, decide_eq_false h, Bool.false_and]
      exact ev_some _
theorem specAll (l : List Int) (hl : l.length ≤ 1000000000000000) : Ev (fun k => spec_l1Ok.f k l) (ab l) := by
  unfold spec_l1Ok.f
  have := specAll_loop l hl l.length 0 (by omega) (by omega)
  simpa using this
def pv (has : Bool) (l : List Int) : Bool := if has = true then decide (l.length ≤ 12) && ab l else decide (l.length = 0)
theorem implPart (has : Bool) (l : List Int) (hl : l.length ≤ 1000000000000000) : Ev (fun k => impl_partValid.f k has l) (pv has l) := by
  unfold impl_partValid.f pv
  cases has with
  | true =>
    simp only [if_true]
    by_cases h : (l.length : Int) ≤ 12
    · simp only [if_pos h, decide_eq_true (show l.length ≤ 12 by omega), Bool.true_and]
      exact Ev.bind (implAll l hl) (ev_some _)
    · simp only [if_neg h, decide_eq_false (show ¬ l.length ≤ 12 by omega), Bool.false_and]
      exact ev_some _
  | false =>
    simp only [Bool.false_eq_true, if_false]
    rw [show ((l.length : Int) == 0) = decide (l.length = 0) by rw [Bool.eq_iff_iff]; simp]
    exact ev_some _
theorem specPart (has : Bool) (l : List Int) (hl : l.length ≤ 1000000000000000) : Ev (fun k => spec_l3Part.f k has l) (pv has l) := by
  unfold spec_l3Part.f pv
  cases has with
  | true =>
    simp only [if_true]
    refine Ev.bind (specAll l hl) ?_
    by_cases h : ab l = true
    · simp only [if_pos h, h, Bool.and_true]
      rw [show decide ((l.length : Int) ≤ 12) = decide (l.length ≤ 12) by rw [decide_eq_decide]; omega]
      exact ev_some _
    · simp only [if_neg h, show ab l = false by simpa using h, Bool.and_false]
      exact ev_some _
  | false =>
    simp only [Bool.false_eq_true, if_false]
    by_cases h : l.length = 0
    · simp only [if_pos (show (l.length : Int) = 0 by omega), decide_eq_true h]
      refine Ev.bind (specAll l hl) ?_
      have hn : l = [] := List.length_eq_zero_iff.1 h
      subst hn
      simp only [ab_nil, if_true]
      exact ev_some _
    · simp only [if_neg (show ¬ (l.length : Int) = 0 by omega), decide_eq_false h]
      exact ev_some _
abbrev Rc := S34
abbrev rr (l : List Rc) (i : Int) : Rc := rd_T34 l i
theorem rr_nat (l : List Rc) (j : Nat) (h : j < l.length) : rr l (j : Int) = l[j] := by
  unfold rr rd_T34
  rw [Int.toNat_natCast, List.getD_eq_getElem?_getD, List.getElem?_eq_getElem h]
  rfl
def smallR (r : Rc) : Prop := r.f3.length ≤ 1000000000000000 ∧ r.f5.length ≤ 1000000000000000
def smallRs (l : List Rc) : Prop := l.length ≤ 1000000000000000 ∧ ∀ r ∈ l, smallR r
theorem smallRs_at {l : List Rc} (h : smallRs l) (j : Nat) (hj : j < l.length) : smallR (rr l (j : Int)) := by
  rw [rr_nat l j hj]
  exact h.2 _ (List.getElem_mem hj)
def rv (r : Rc) : Bool := decide ((0 ≤ r.f0 ∧ r.f0 ≤ 99999) ∧ (0 ≤ r.f1 ∧ r.f1 ≤ 99999)) && (pv r.f2 r.f3 && pv r.f4 r.f5)
theorem implRec (r : Rc) (h : smallR r) : Ev (fun k => impl_RecordValid.f k r.f0 r.f1 r.f2 r.f3 r.f4 r.f5) (rv r) := by
  unfold impl_RecordValid.f rv
  simp only [baseValid_eq, bsome, decide_eq_true_eq]
  by_cases h0 : (0 ≤ r.f0 ∧ r.f0 ≤ 99999) ∧ (0 ≤ r.f1 ∧ r.f1 ≤ 99999)
  · simp only [if_pos h0, decide_eq_true h0, Bool.true_and]
    refine Ev.bind (implPart _ _ h.1) ?_
    by_cases h1 : pv r.f2 r.f3 = true
    · simp only [if_pos h1, h1, Bool.true_and]
      exact Ev.bind (implPart _ _ h.2) (ev_some _)
    · simp only [if_neg h1, show pv r.f2 r.f3 = false by simpa using h1, Bool.false_and]
      exact ev_some _
  · simp only [if_neg h0, decide_eq_false h0, Bool.false_and]
    exact ev_some _
theorem specRec (r : Rc) (h : smallR r) : Ev (fun k => spec_RecordValid.f k r.f0 r.f1 r.f2 r.f3 r.f4 r.f5) (rv r) := by
  unfold spec_RecordValid.f rv
  simp only [spec_l6In_eq, bsome, decide_eq_true_eq]
  by_cases h0 : 0 ≤ r.f0 ∧ r.f0 ≤ 99999
  · by_cases h1 : 0 ≤ r.f1 ∧ r.f1 ≤ 99999
    · simp only [if_pos h0, if_pos h1, decide_eq_true (show (0 ≤ r.f0 ∧ r.f0 ≤ 99999) ∧ (0 ≤ r.f1 ∧ r.f1 ≤ 99999) from ⟨h0, h1⟩), Bool.true_and]
      refine Ev.bind (specPart _ _ h.1) ?_
      by_cases h2 : pv r.f2 r.f3 = true
      · simp only [if_pos h2, h2, Bool.true_and]
        exact Ev.bind (specPart _ _ h.2) (ev_some _)
      · simp only [if_neg h2, show pv r.f2 r.f3 = false by simpa using h2, Bool.false_and]
        exact ev_some _
    · simp only [if_pos h0, if_neg h1, decide_eq_false (show ¬ ((0 ≤ r.f0 ∧ r.f0 ≤ 99999) ∧ (0 ≤ r.f1 ∧ r.f1 ≤ 99999)) from fun h => h1 h.2), Bool.false_and]
      exact ev_some _
  · simp only [if_neg h0, decide_eq_false (show ¬ ((0 ≤ r.f0 ∧ r.f0 ≤ 99999) ∧ (0 ≤ r.f1 ∧ r.f1 ≤ 99999)) from fun h => h0 h.1), Bool.false_and]
    exact ev_some _
def RF (l : List Rc) (i : Nat) : Prop := ∀ j, i ≤ j → j < l.length → rv (rr l j) = true ∧ (0 < j → (rr l ((j : Int) - 1)).f0 < (rr l j).f0)
theorem RF_end {l : List Rc} {i : Nat} (h : l.length ≤ i) : RF l i := fun j h1 h2 => by omega
theorem RF_step {l : List Rc} {i : Nat} (h : i < l.length) : RF l i ↔ (rv (rr l i) = true ∧ (0 < i → (rr l ((i : Int) - 1)).f0 < (rr l i).f0)) ∧ RF l (i + 1) := by
  constructor
  · intro hv
    exact ⟨hv i (Nat.le_refl _) h, fun j h1 h2 => hv j (by omega) h2⟩
  · rintro ⟨h1, h2⟩ j h3 h4
    by_cases e : j = i
    · subst e; exact h1
    · exact h2 j (by omega) h4
theorem implRecs_loop (l : List Rc) (hl : smallRs l) (a0 a1 : Bool) (a2 a3 a4 : Int) : ∀ (d i : Nat), l.length - i = d → i ≤ l.length → Evs (fun k => impl_BatchValid.l0 k l (l.length : Int) (i : Int) a0 a1 a2 a3 a4 l) (fun b => b = true ↔ RF l i) := by
  intro d
  induction d with
  | zero =>
    intro i hd hi
    refine Evs.succ ?_
    simp only [impl_BatchValid.l0, if_neg (show ¬ (i : Int) < (l.length : Int) by omega)]
    exact Evs.done (by simp; exact RF_end (by omega))
  | succ d ih =>
    intro i hd hi
    have hll := hl.1
    have hn := ih (i + 1) (by omega) (by omega)
    have e1 : wrap64 ((i : Int) + 1) = ((i + 1 : Nat) : Int) := by rw [wrap_id (by omega) (by omega)]; omega
    have e2 : wrap64 ((i : Int) - 1) = (i : Int) - 1 := wrap_id (by omega) (by omega)
    rw [RF_step (show i < l.length by omega)]
    refine Evs.succ ?_
    simp only [impl_BatchValid.l0, if_pos (show (i : Int) < (l.length : Int) by omega), if_pos (show (0 : Int) ≤ i by omega), e1, e2]
    refine Evs.bind (Evs.of (implRec (rr l (i : Int)) (smallRs_at hl i (by omega))) rfl : Evs _ (fun x => x = rv (rr l (i : Int)))) ?_
    rintro _ rfl
    by_cases h1 : rv (rr l (i : Int)) = true
    · simp only [if_pos h1]
      by_cases h0 : (i : Int) > 0
      · simp only [if_pos h0, if_pos (show 0 ≤ (i : Int) - 1 by omega), if_pos (show (i : Int) - 1 < (l.length : Int) by omega)]
        by_cases h2 : (rr l ((i : Int) - 1)).f0 ≥ (rr l (i : Int)).f0
        · simp only [if_pos h2]
          refine Evs.done ?_
          simp only [Bool.false_eq_true, false_iff]
          rintro ⟨⟨_, h3⟩, _⟩
          have := h3 (by omega)
          omega
        · simp only [if_neg h2]
          refine hn.mono fun b hb => ?_
          rw [hb]
          exact ⟨fun h => ⟨⟨h1, fun _ => by omega⟩, h⟩, fun h => h.2⟩
      · simp only [if_neg h0]
        refine hn.mono fun b hb => ?_
        rw [hb]
        exact ⟨fun h => ⟨⟨h1, fun h' => absurd h' (by omega)⟩, h⟩, fun h => h.2⟩
    · simp only [if_neg h1]
      exact Evs.done (by simp only [Bool.false_eq_true, false_iff]; exact fun h => h1 h.1.1)
theorem specRecs_loop (l : List Rc) (hl : smallRs l) : ∀ (d i : Nat), l.length - i = d → i ≤ l.length → Evs (fun k => spec_l5Records.l0 k l (i : Int)) (fun b => b = true ↔ RF l i ∧ 1 ≤ l.length ∧ l.length ≤ 6) := by
  intro d
  induction d with
  | zero =>
    intro i hd hi
    refine Evs.succ ?_
    simp only [spec_l5Records.l0, if_neg (show ¬ (i : Int) < (l.length : Int) by omega), spec_l6In_eq, bsome]
    exact Evs.done (by simp only [decide_eq_true_eq]; exact ⟨fun h => ⟨RF_end (by omega), by omega, by omega⟩, fun h => by have := h.2; omega⟩)
  | succ d ih =>
    intro i hd hi
    have hll := hl.1
    have hn := ih (i + 1) (by omega) (by omega)
    have e1 : wrap64 ((i : Int) + 1) = ((i + 1 : Nat) : Int) := by rw [wrap_id (by omega) (by omega)]; omega
    have e2 : wrap64 ((i : Int) - 1) = (i : Int) - 1 := wrap_id (by omega) (by omega)
    rw [RF_step (show i < l.length by omega)]
    refine Evs.succ ?_
    simp only [spec_l5Records.l0, if_pos (show (i : Int) < (l.length : Int) by omega), if_pos (show (0 : Int) ≤ i by omega), e1, e2]
    refine Evs.bind (Evs.of (specRec (rr l (i : Int)) (smallRs_at hl i (by omega))) rfl : Evs _ (fun x => x = rv (rr l (i : Int)))) ?_
    rintro _ rfl
    by_cases h1 : rv (rr l (i : Int)) = true
    · simp only [if_pos h1]
      by_cases h0 : (i : Int) > 0
      · simp only [if_pos h0, if_pos (show 0 ≤ (i : Int) - 1 by omega), if_pos (show (i : Int) - 1 < (l.length : Int) by omega)]
        by_cases h2 : (rr l ((i : Int) - 1)).f0 ≥ (rr l (i : Int)).f0
        · simp only [if_pos h2]
          refine Evs.done ?_
          simp only [Bool.false_eq_true, false_iff]
          rintro ⟨⟨⟨_, h3⟩, _⟩, _⟩
          have := h3 (by omega)
          omega
        · simp only [if_neg h2]
          refine hn.mono fun b hb => ?_
          rw [hb]
          exact ⟨fun h => ⟨⟨⟨h1, fun _ => by omega⟩, h.1⟩, h.2⟩, fun h => ⟨h.1.2, h.2⟩⟩
      · simp only [if_neg h0]
        refine hn.mono fun b hb => ?_
        rw [hb]
        exact ⟨fun h => ⟨⟨⟨h1, fun h' => absurd h' (by omega)⟩, h.1⟩, h.2⟩, fun h => ⟨h.1.2, h.2⟩⟩
    · simp only [if_neg h1]
      exact Evs.done (by simp only [Bool.false_eq_true, false_iff]; exact fun h => h1 h.1.1.1)
def VB (a1 : Bool) (a2 a3 a4 : Int) (l : List Rc) : Prop :=
  (if a2 = 255 then a3 = 0 ∧ a4 = 0 ∧ a1 = false else (0 ≤ a2 ∧ a2 ≤ 254) ∧ (0 ≤ a3 ∧ a3 ≤ 99) ∧ (0 ≤ a4 ∧ a4 ≤ 9999)) ∧ (1 ≤ l.length ∧ l.length ≤ 6) ∧ (a1 = true → l.length = 1) ∧ RF l 0
theorem implB_j0 (a0 a1 : Bool) (a2 a3 a4 : Int) (l : List Rc) (hl : smallRs l) : Evs (fun k => impl_BatchValid.j0 k a0 a1 a2 a3 a4 l) (fun b => b = true ↔ (1 ≤ l.length ∧ l.length ≤ 6) ∧ (a1 = true → l.length = 1) ∧ RF l 0) := by
  have hr := implRecs_loop l hl a0 a1 a2 a3 a4 l.length 0 (by omega) (by omega)
  refine Evs.succ ?_
  simp only [impl_BatchValid.j0, impl_within_eq, bsome, decide_eq_true_eq]
  by_cases h : 1 ≤ (l.length : Int) ∧ (l.length : Int) ≤ 6
  · simp only [if_pos h]
    cases a1 with
    | true =>
      simp only [if_true]
      refine Evs.succ ?_
      by_cases h1 : l.length = 1
      · simp only [impl_BatchValid.j1, show ((l.length : Int) != 1) = false by rw [h1]; rfl, Bool.false_eq_true, if_false]
        refine hr.mono fun b hb => ?_
        rw [hb]
        exact ⟨fun h2 => ⟨by omega, fun _ => h1, h2⟩, fun h2 => h2.2.2⟩
      · simp only [impl_BatchValid.j1, show ((l.length : Int) != 1) = true by simp; omega, if_true]
        exact Evs.done (by simp only [Bool.false_eq_true, false_iff]; exact fun h2 => h1 (h2.2.1 trivial))
    | false =>
      simp only [Bool.false_eq_true, if_false]
      refine Evs.succ ?_
      simp only [impl_BatchValid.j1, Bool.false_eq_true, if_false]
      refine hr.mono fun b hb => ?_
      rw [hb]
      exact ⟨fun h2 => ⟨by omega, (fun h3 => h3.elim), h2⟩, fun h2 => h2.2.2⟩
  · simp only [if_neg h]
    refine Evs.succ ?_
    simp only [impl_BatchValid.j1, if_true]
    exact Evs.done (by simp only [Bool.false_eq_true, false_iff]; exact fun h2 => h ⟨by have := h2.1.1; omega, by have := h2.1.2; omega⟩)
theorem implB_evs (a0 a1 : Bool) (a2 a3 a4 : Int) (l : List Rc) (hl : smallRs l) : Evs (fun k => impl_BatchValid.f k a0 a1 a2 a3 a4 l) (fun b => b = true ↔ VB a1 a2 a3 a4 l) := by
  have hj := implB_j0 a0 a1 a2 a3 a4 l hl
  unfold impl_BatchValid.f VB
  by_cases h : a2 = 255
  · simp only [if_pos h]
    by_cases h3 : a3 = 0
    · simp only [if_pos h3]
      by_cases h4 : a4 = 0
      · simp only [if_pos h4]
        cases a1 with
        | true =>
          simp only [if_true]
          exact Evs.done (by simp)
        | false =>
          simp only [Bool.false_eq_true, if_false]
          refine hj.mono fun b hb => ?_
          rw [hb]
          exact ⟨fun h2 => ⟨⟨h3, h4, trivial⟩, h2.1, (fun h5 => h5.elim), h2.2.2⟩, fun h2 => ⟨h2.2.1, (fun h5 => by cases h5), h2.2.2.2⟩⟩
      · simp only [if_neg h4]
        exact Evs.done (by simp only [Bool.false_eq_true, false_iff]; exact fun h2 => h4 h2.1.2.1)
    · simp only [if_neg h3]
      exact Evs.done (by simp only [Bool.false_eq_true, false_iff]; exact fun h2 => h3 h2.1.1)
  · simp only [if_neg h, idValid_eqB, impl_within_eq, bsome, decide_eq_true_eq]
    by_cases h2 : 0 ≤ a2 ∧ a2 ≤ 254
    · simp only [if_pos h2]
      by_cases h3 : 0 ≤ a3 ∧ a3 ≤ 99
      · simp only [if_pos h3]
        by_cases h4 : 0 ≤ a4 ∧ a4 ≤ 9999
        · simp only [if_pos h4]
          refine hj.mono fun b hb => ?_
          rw [hb]
          exact ⟨fun h5 => ⟨⟨h2, h3, h4⟩, h5⟩, fun h5 => h5.2⟩
        · simp only [if_neg h4]
          exact Evs.done (by simp only [Bool.false_eq_true, false_iff]; exact fun h5 => h4 h5.1.2.2)
      · simp only [if_neg h3]
        exact Evs.done (by simp only [Bool.false_eq_true, false_iff]; exact fun h5 => h3 h5.1.2.1)
    · simp only [if_neg h2]
      exact Evs.done (by simp only [Bool.false_eq_true, false_iff]; exact fun h5 => h2 h5.1.1)
theorem specB_j0_true (a0 a1 : Bool) (a2 a3 a4 : Int) (l : List Rc) : Evs (fun k => spec_BatchValid.j0 k true a0 a1 a2 a3 a4 l) (fun b => b = false) := by
  refine Evs.succ ?_
  simp only [spec_BatchValid.j0, if_true]
  exact Evs.done rfl
theorem specB_evs (a0 a1 : Bool) (a2 a3 a4 : Int) (l : List Rc) (hl : smallRs l) : Evs (fun k => spec_BatchValid.f k a0 a1 a2 a3 a4 l) (fun b => b = true ↔ VB a1 a2 a3 a4 l) := by
  have hr := specRecs_loop l hl l.length 0 (by omega) (by omega)
  have no : ∀ {P : Prop}, ¬ P → ∀ b : Bool, b = false → (b = true ↔ P) := fun hP b hb => by rw [hb]; simp only [Bool.false_eq_true, false_iff]; exact hP
  unfold spec_BatchValid.f
  unfold spec_l5Records.f
  refine Evs.bind hr ?_
  intro t ht
  by_cases h : t = true
  · obtain ⟨hRF, hl1⟩ := ht.1 h
    simp only [if_pos h, spec_l6In_eq, bsome, decide_eq_true_eq]
    by_cases h2 : 0 ≤ a2 ∧ a2 ≤ 255
    · simp only [if_pos h2]
      by_cases h3 : 0 ≤ a3 ∧ a3 ≤ 99
      · simp only [if_pos h3]
        by_cases h4 : 0 ≤ a4 ∧ a4 ≤ 9999
        · simp only [decide_eq_true h4, Bool.not_true]
          refine Evs.succ ?_
          simp only [spec_BatchValid.j0, Bool.false_eq_true, if_false]
          unfold VB
          by_cases h5 : a2 = 255
          · simp only [if_pos h5]
            by_cases h6 : a3 = 0
            · simp only [if_pos h6]
              by_cases h7 : a4 = 0
              · simp only [if_pos h7]
                refine Evs.done ?_
                cases a1
                · simp; exact ⟨⟨h6, h7⟩, hl1, hRF⟩
                · simp
              · simp only [if_neg h7]
                exact Evs.done (no (fun h8 => h7 h8.1.2.1) _ rfl)
            · simp only [if_neg h6]
              exact Evs.done (no (fun h8 => h6 h8.1.1) _ rfl)
          · simp only [if_neg h5]
            cases a1 with
            | true =>
              simp only [if_true]
              refine Evs.done ?_
              simp only [beq_iff_eq]
              exact ⟨fun h8 => ⟨⟨by omega, h3, h4⟩, hl1, fun _ => by omega, hRF⟩, fun h8 => by have := h8.2.2.1 trivial; omega⟩
            | false =>
              simp only [Bool.false_eq_true, if_false]
              refine Evs.done ?_
              simp only [true_iff]
              exact ⟨⟨by omega, h3, h4⟩, hl1, (fun h8 => h8.elim), hRF⟩
        · simp only [decide_eq_false h4, Bool.not_false]
          refine (specB_j0_true a0 a1 a2 a3 a4 l).mono (no ?_)
          unfold VB
          split
          · rintro ⟨⟨_, h8, _⟩, _⟩
            exact h4 (by omega)
          · exact fun h8 => h4 h8.1.2.2
      · simp only [if_neg h3]
        refine (specB_j0_true a0 a1 a2 a3 a4 l).mono (no ?_)
        unfold VB
        split
        · rintro ⟨⟨h8, _, _⟩, _⟩
          exact h3 (by omega)
        · exact fun h8 => h3 h8.1.2.1
    · simp only [if_neg h2]
      refine (specB_j0_true a0 a1 a2 a3 a4 l).mono (no ?_)
      unfold VB
      split
      · rename_i h8
        exact fun _ => h2 (by omega)
      · exact fun h8 => h2 (by have := h8.1.1; omega)
  · simp only [if_neg h]
    refine (specB_j0_true a0 a1 a2 a3 a4 l).mono (no ?_)
    exact fun h8 => h (ht.2 ⟨h8.2.2.2, h8.2.1⟩)
open Classical in
noncomputable def vb (a1 : Bool) (a2 a3 a4 : Int) (l : List Rc) : Bool := decide (VB a1 a2 a3 a4 l)
theorem vb_iff (a1 : Bool) (a2 a3 a4 : Int) (l : List Rc) : vb a1 a2 a3 a4 l = true ↔ VB a1 a2 a3 a4 l := by unfold vb; simp
theorem implB (a0 a1 : Bool) (a2 a3 a4 : Int) (l : List Rc) (hl : smallRs l) : Ev (fun k => impl_BatchValid.f k a0 a1 a2 a3 a4 l) (vb a1 a2 a3 a4 l) := by
  obtain ⟨b, hb, h⟩ := implB_evs a0 a1 a2 a3 a4 l hl
  rw [show vb a1 a2 a3 a4 l = b by rw [Bool.eq_iff_iff, vb_iff, h]]
  exact hb
theorem specB (a0 a1 : Bool) (a2 a3 a4 : Int) (l : List Rc) (hl : smallRs l) : Ev (fun k => spec_BatchValid.f k a0 a1 a2 a3 a4 l) (vb a1 a2 a3 a4 l) := by
  obtain ⟨b, hb, h⟩ := specB_evs a0 a1 a2 a3 a4 l hl
  rw [show vb a1 a2 a3 a4 l = b by rw [Bool.eq_iff_iff, vb_iff, h]]
  exact hb
end Go.Proofs.Yticpnjhkdfdkkaa.Q
namespace Go.Proofs.Yticpnjhkdfdkkaa.Q
open Go.RowKit Go.Proofs.Yticpnjhkdfdkkaa.T Go.Proofs.YticpnjhkdfdkkaaW.PrintWords Go.Proofs.YticpnjhkdfdkkaaW.PrintLast
set_option linter.unusedVariables false
set_option linter.unusedSimpArgs false
theorem sameInts_loop (a b : List Int) (hl : a.length = b.length) (hs : a.length ≤ 1000000000000000) : ∀ (d i : Nat), a.length - i = d → i ≤ a.length → Ev (fun k => laws_sameInts.l0 k a b (i : Int)) (decide (a.drop i = b.drop i)) := by
  intro d
  induction d with
  | zero =>
    intro i hd hi
    rw [show a.drop i = [] from List.drop_eq_nil_of_le (by omega), show b.drop i = [] from List.drop_eq_nil_of_le (by omega)]
    refine ev_succ ?_
    simp only [laws_sameInts.l0, if_neg (show ¬ (i : Int) < (a.length : Int) by omega), decide_true]
    exact ev_some _
  | succ d ih =>
    intro i hd hi
    have hlt : (i : Int) < (a.length : Int) := by omega
    have e1 : wrap64 ((i : Int) + 1) = ((i + 1 : Nat) : Int) := by rw [wrap_id (by omega) (by omega)]; omega
    rw [drop_int (show i < a.length by omega), drop_int (show i < b.length by omega)]
    refine ev_succ ?_
    simp only [laws_sameInts.l0, if_pos hlt, if_pos (show (0 : Int) ≤ i by omega), if_pos (show (i : Int) < (b.length : Int) by omega), e1]
    by_cases h0 : rd a i = rd b i
    · simp only [if_pos h0]
      have := ih (i + 1) (by omega) (by omega)
      simpa [h0] using this
    · simp only [if_neg h0]
      rw [decide_eq_false (by simp [h0])]
      exact ev_some _
theorem sameInts (a b : List Int) (hs : a.length ≤ 1000000000000000) : Ev (fun k => laws_sameInts.f k a b) (decide (a = b)) := by
  unfold laws_sameInts.f
  by_cases h : (a.length : Int) = (b.length : Int)
  · simp only [if_pos h]
    have := sameInts_loop a b (by omega) hs a.length 0 (by omega) (by omega)
    simpa using this
  · simp only [if_neg h]
    rw [decide_eq_false (fun e => h (by rw [e]))]
    exact ev_some _
theorem Rc_ext {a b : Rc} (h0 : a.f0 = b.f0) (h1 : a.f1 = b.f1) (h2 : a.f2 = b.f2) (h3 : a.f3 = b.f3) (h4 : a.f4 = b.f4) (h5 : a.f5 = b.f5) : a = b := by
  cases a
  cases b
  simp_all
instance : DecidableEq Rc := fun a b => decidable_of_iff (a.f0 = b.f0 ∧ a.f1 = b.f1 ∧ a.f2 = b.f2 ∧ a.f3 = b.f3 ∧ a.f4 = b.f4 ∧ a.f5 = b.f5) ⟨fun h => Rc_ext h.1 h.2.1 h.2.2.1 h.2.2.2.1 h.2.2.2.2.1 h.2.2.2.2.2, fun h => by rw [h]; simp⟩
theorem sameRec (a b : Rc) (hs : smallR a) : Ev (fun k => laws_sameRecord.f k a.f0 a.f1 a.f2 a.f3 a.f4 a.f5 b.f0 b.f1 b.f2 b.f3 b.f4 b.f5) (decide (a = b)) := by
  unfold laws_sameRecord.f
  by_cases h0 : a.f0 = b.f0
  · by_cases h1 : a.f1 = b.f1
    · by_cases h2 : a.f2 = b.f2
      · by_cases h4 : a.f4 = b.f4
        · simp only [if_pos h0, if_pos h1, if_pos (show (a.f2 == b.f2) = true by simpa using h2), if_pos (show (a.f4 == b.f4) = true by simpa using h4)]
          refine Ev.bind (sameInts a.f3 b.f3 hs.1) ?_
          by_cases h3 : a.f3 = b.f3
          · simp only [if_pos (decide_eq_true h3)]
            refine Ev.bind (sameInts a.f5 b.f5 hs.2) ?_
            by_cases h5 : a.f5 = b.f5
            · rw [decide_eq_true h5, decide_eq_true (Rc_ext h0 h1 h2 h3 h4 h5)]
              exact ev_some _
            · rw [decide_eq_false h5, decide_eq_false (fun e => h5 (by rw [e]))]
              exact ev_some _
          · simp only [decide_eq_false h3, Bool.false_eq_true, if_false]
            rw [decide_eq_false (fun e => h3 (by rw [e]))]
            exact ev_some _
        · simp only [if_pos h0, if_pos h1, if_pos (show (a.f2 == b.f2) = true by simpa using h2), if_neg (show ¬ (a.f4 == b.f4) = true by simpa using h4)]
          rw [decide_eq_false (fun e => h4 (by rw [e]))]
          exact ev_some _
      · simp only [if_pos h0, if_pos h1, if_neg (show ¬ (a.f2 == b.f2) = true by simpa using h2)]
        rw [decide_eq_false (fun e => h2 (by rw [e]))]
        exact ev_some _
    · simp only [if_pos h0, if_neg h1]
      rw [decide_eq_false (fun e => h1 (by rw [e]))]
      exact ev_some _
  · simp only [if_neg h0]
    rw [decide_eq_false (fun e => h0 (by rw [e]))]
    exact ev_some _
theorem drop_rec {l : List Rc} {i : Nat} (h : i < l.length) : l.drop i = rr l i :: l.drop (i + 1) := by
  rw [List.drop_eq_getElem_cons h, rr_nat l i h]
theorem sameRecs_loop (a b : List Rc) (hl : a.length = b.length) (hs : smallRs a) : ∀ (d i : Nat), a.length - i = d → i ≤ a.length → Ev (fun k => laws_sameRecords.l0 k a b (i : Int)) (decide (a.drop i = b.drop i)) := by
  have hlen := hs.1
  intro d
  induction d with
  | zero =>
    intro i hd hi
    rw [show a.drop i = [] from List.drop_eq_nil_of_le (by omega), show b.drop i = [] from List.drop_eq_nil_of_le (by omega)]
    refine ev_succ ?_
    simp only [laws_sameRecords.l0, if_neg (show ¬ (i : Int) < (a.length : Int) by omega), decide_true]
    exact ev_some _
  | succ d ih =>
    intro i hd hi
    have hlt : (i : Int) < (a.length : Int) := by omega
    have e1 : wrap64 ((i : Int) + 1) = ((i + 1 : Nat) : Int) := by rw [wrap_id (by omega) (by omega)]; omega
    rw [drop_rec (show i < a.length by omega), drop_rec (show i < b.length by omega)]
    refine ev_succ ?_
    simp only [laws_sameRecords.l0, if_pos hlt, if_pos (show (0 : Int) ≤ i by omega), if_pos (show (i : Int) < (b.length : Int) by omega), e1]
    refine Ev.bind (sameRec (rr a i) (rr b i) (smallRs_at hs i (by omega))) ?_
    by_cases h0 : rr a i = rr b i
    · simp only [if_pos (decide_eq_true h0)]
      have := ih (i + 1) (by omega) (by omega)
      simpa [h0] using this
    · simp only [decide_eq_false h0, Bool.false_eq_true, if_false]
      rw [decide_eq_false (by simp [h0])]
      exact ev_some _
theorem sameRecs (a b : List Rc) (hs : smallRs a) : Ev (fun k => laws_sameRecords.f k a b) (decide (a = b)) := by
  unfold laws_sameRecords.f
  by_cases h : (a.length : Int) = (b.length : Int)
  · simp only [if_pos h]
    have := sameRecs_loop a b (by omega) hs a.length 0 (by omega) (by omega)
    simpa using this
  · simp only [if_neg h]
    rw [decide_eq_false (fun e => h (by rw [e]))]
    exact ev_some _
theorem sameBt (a0 a1 : Bool) (a2 a3 a4 : Int) (a b : List Rc) (hs : smallRs a) : Ev (fun k => laws_sameBatch.f k a0 a1 a2 a3 a4 a a0 a1 a2 a3 a4 b) (decide (a = b)) := by
  unfold laws_sameBatch.f
  simp only [beq_self_eq_true, if_true]
  exact Ev.bind (sameRecs a b hs) (ev_some _)
end Go.Proofs.Yticpnjhkdfdkkaa.Q
namespace Go.Proofs.Yticpnjhkdfdkkaa.Q
open Go.RowKit Go.Proofs.Yticpnjhkdfdkkaa.T Go.Proofs.YticpnjhkdfdkkaaW.PrintWords Go.Proofs.YticpnjhkdfdkkaaW.PrintLast
set_option linter.unusedVariables false
set_option linter.unusedSimpArgs false
theorem bytes_of {l : List Int} (h : ∀ x ∈ l, (Lit.int .u8 x).wf = true) : Bytes l := by
  intro x hx
  have := h x hx
  simp [Lit.wf, IntKind.min, IntKind.max, IntKind.signed, IntKind.bits] at this
  omega
theorem open_ev (l : List Int) (h : Bytes l) : ∃ b, spec_l6Open.f l = some (b, 0) ∧ Bytes b ∧ b.length ≤ 2000 := by
  unfold spec_l6Open.f
  by_cases hc : (l.length : Int) > 2000
  · rw [if_pos hc, if_pos (by omega)]
    exact ⟨_, rfl, fun x hx => h x (List.mem_of_mem_take hx), by rw [List.length_take]; omega⟩
  · rw [if_neg hc]
    exact ⟨_, rfl, h, by omega⟩
end Go.Proofs.Yticpnjhkdfdkkaa.Q
namespace Go.Proofs.Yticpnjhkdfdkkaa.Q
open Go.RowKit Go.Proofs.Yticpnjhkdfdkkaa.T Go.Proofs.YticpnjhkdfdkkaaW.PrintWords Go.Proofs.YticpnjhkdfdkkaaW.PrintLast
set_option linter.unusedVariables false
set_option linter.unusedSimpArgs false
theorem markRow_small (o t : Int) (g : Bool) : smallRs (markRow o t g) := by
  refine ⟨by simp [markRow], fun r hr => ?_⟩
  rw [List.mem_singleton.1 hr]
  exact ⟨by simp, by simp⟩
noncomputable def markB (p e o t : Int) (g : Bool) : Bool × Bool × Int × Int × Int × List Rc × Bool := if vb true p e 0 (markRow o t g) = true then (false, true, p, e, 0, markRow o t g, true) else (false, false, 0, 0, 0, [], false)
theorem implMark (p e o t : Int) (g : Bool) : Ev (fun k => impl_MarkBatch.f k p e o t g) (markB p e o t g) := by
  have h := implB false true p e 0 (markRow o t g) (markRow_small o t g)
  unfold impl_MarkBatch.f markB
  cases g with
  | true =>
    simp only [if_true, bsome]
    refine Ev.bind h ?_
    by_cases hv : vb true p e 0 (markRow o t true) = true
    · simp only [if_pos hv]; exact ev_some _
    · simp only [if_neg hv]; exact ev_some _
  | false =>
    simp only [Bool.false_eq_true, if_false, bsome]
    refine Ev.bind h ?_
    by_cases hv : vb true p e 0 (markRow o t false) = true
    · simp only [if_pos hv]; exact ev_some _
    · simp only [if_neg hv]; exact ev_some _
theorem specMark (p e o t : Int) (g : Bool) : Ev (fun k => spec_MarkBatch.f k p e o t g) (markB p e o t g) := by
  have h := specB false true p e 0 (markRow o t g) (markRow_small o t g)
  unfold spec_MarkBatch.f markB
  refine Ev.bind h ?_
  by_cases hv : vb true p e 0 (markRow o t g) = true
  · simp only [if_pos hv]; exact ev_some _
  · simp only [if_neg hv]; exact ev_some _
theorem drawMark {l0 : List Int} (hb : Bytes l0) : Evs (fun k => spec_DrawMarkBatch.f k l0) (fun _ => True) := by
  obtain ⟨b, ho, hb2, hbl⟩ := open_ev l0 hb
  unfold spec_DrawMarkBatch.f
  simp only [ho, bsome]
  refine Evs.bind (pick_evs b 0 10 hb2 hbl (by omega) (by omega) (by omega)) ?_
  rintro ⟨u, _⟩ ⟨u0, u1, rfl⟩
  by_cases hu : u = 0
  · simp only [if_pos hu]
    refine Evs.bind (pick_evs b (0 + 1) 3 hb2 hbl (by omega) (by omega) (by omega)) ?_
    rintro ⟨v, _⟩ ⟨v0, v1, rfl⟩
    simp only [if_pos v0, if_pos (show v < (([(-1), 254, 255] : List Int).length : Int) from v1)]
    refine Evs.bind (pick_evs b (0 + 1 + 1) 3 hb2 hbl (by omega) (by omega) (by omega)) ?_
    rintro ⟨x, _⟩ ⟨x0, x1, rfl⟩
    refine Evs.bind (pick_evs b (0 + 1 + 1 + 1) 3 hb2 hbl (by omega) (by omega) (by omega)) ?_
    rintro ⟨y, _⟩ ⟨y0, y1, rfl⟩
    simp only [if_pos y0, if_pos (show y < (([(-1), 5, 100000] : List Int).length : Int) from y1)]
    exact Evs.done trivial
  · simp only [if_neg hu]
    refine Evs.bind (pick_evs b (0 + 1) 5 hb2 hbl (by omega) (by omega) (by omega)) ?_
    rintro ⟨v, _⟩ ⟨v0, v1, rfl⟩
    refine Evs.bind (pick_evs b (0 + 1 + 1) 5 hb2 hbl (by omega) (by omega) (by omega)) ?_
    rintro ⟨x, _⟩ ⟨x0, x1, rfl⟩
    refine Evs.bind (pick_evs b (0 + 1 + 1 + 1) 60 hb2 hbl (by omega) (by omega) (by omega)) ?_
    rintro ⟨y, _⟩ ⟨y0, y1, rfl⟩
    refine Evs.bind (pick_evs b (0 + 1 + 1 + 1 + 1) 250 hb2 hbl (by omega) (by omega) (by omega)) ?_
    rintro ⟨z, _⟩ ⟨z0, z1, rfl⟩
    refine Evs.bind (pick_evs b (0 + 1 + 1 + 1 + 1 + 1) 2 hb2 hbl (by omega) (by omega) (by omega)) ?_
    rintro ⟨s, _⟩ ⟨s0, s1, rfl⟩
    exact Evs.done trivial
end Go.Proofs.Yticpnjhkdfdkkaa.Q
