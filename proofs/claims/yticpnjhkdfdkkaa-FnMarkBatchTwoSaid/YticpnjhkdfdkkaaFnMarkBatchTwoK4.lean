/- FnMarkBatchTwo, part 5 of 6: merged by wip/tools/pack2.py out of the texts that the row reaches; the pure statement is the session's own. -/
import Derived.Test.YticpnjhkdfdkkaaFnMarkBatchTwoK3
namespace Go.Proofs.Yticpnjhkdfdkkaa.T
open Go.RowKit Go.Proofs.YticpnjhkdfdkkaaW.PrintWords Go.Proofs.YticpnjhkdfdkkaaW.PrintLast Go.Proofs.YticpnjhkdfdkkaaW.PrintMore

set_option linter.unusedVariables false
set_option linter.unusedSimpArgs false
def laws_FnMarkBatchTwo.j0 : Nat → Int → Int → Int → Int → Bool → Bool → Bool → Bool → Bool → Bool → Int → Int → Int → List (S34) → Bool → Bool → Int → Int → Int → List (S34) → Option (Bool)
 | 0, _, _, _, _, _, _, _, _, _, _, _, _, _, _, _, _, _, _, _, _ => none
 | k + 1, x3, x4, x5, x6, x7, x9, x11, x56, x247000, x247001, x247002, x247003, x247004, x247005, x257000, x257001, x257002, x257003, x257004, x257005 => if x56 = true then (if (x9 == x11) = true then ((laws_sameBatch.f k x247000 x247001 x247002 x247003 x247004 x247005 x257000 x257001 x257002 x257003 x257004 x257005).bind fun t258 => (some t258)) else (some false)) else ((impl_MarkBatch.f k x3 x4 x5 x6 (!x7)).bind fun bt259 => (if 0 < (bt259.2.2.2.2.2.1.length : Int) then (if 0 < (x247005.length : Int) then (if bt259.2.2.2.2.2.2 = true then ((laws_sameBatch.f k bt259.1 bt259.2.1 bt259.2.2.1 bt259.2.2.2.1 bt259.2.2.2.2.1 bt259.2.2.2.2.2.1 x247000 x247001 x247002 x247003 x247004 x247005).bind fun t272 => (if t272 = true then (some false) else ((laws_sameRecord.f k ((rd_T34 bt259.2.2.2.2.2.1 0).f0) ((rd_T34 bt259.2.2.2.2.2.1 0).f1) ((rd_T34 bt259.2.2.2.2.2.1 0).f2) ((rd_T34 bt259.2.2.2.2.2.1 0).f3) ((rd_T34 bt259.2.2.2.2.2.1 0).f4) ((rd_T34 x247005 0).f5) ((rd_T34 x247005 0).f0) ((rd_T34 x247005 0).f1) ((rd_T34 x247005 0).f2) ((rd_T34 x247005 0).f3) ((rd_T34 x247005 0).f4) ((rd_T34 x247005 0).f5)).bind fun t274 => (some t274)))) else (some false)) else (none)) else (none)))
def laws_FnMarkBatchTwo.f (k : Nat) (l0 : List Int) : Option (Bool) := if (l0.length : Int) > 1048576 then (some true) else ((spec_DrawMarkBatch.f k l0).bind fun bt232 => ((impl_MarkBatch.f k bt232.1 bt232.2.1 bt232.2.2.1 bt232.2.2.2.1 bt232.2.2.2.2).bind fun bt237 => ((spec_MarkBatch.f k bt232.1 bt232.2.1 bt232.2.2.1 bt232.2.2.2.1 bt232.2.2.2.2).bind fun bt247 => (if (bt237.2.2.2.2.2.2 != bt247.2.2.2.2.2.2) = true then (laws_FnMarkBatchTwo.j0 k bt232.1 bt232.2.1 bt232.2.2.1 bt232.2.2.2.1 bt232.2.2.2.2 bt237.2.2.2.2.2.2 bt247.2.2.2.2.2.2 true bt237.1 bt237.2.1 bt237.2.2.1 bt237.2.2.2.1 bt237.2.2.2.2.1 bt237.2.2.2.2.2.1 bt247.1 bt247.2.1 bt247.2.2.1 bt247.2.2.2.1 bt247.2.2.2.2.1 bt247.2.2.2.2.2.1) else ((laws_sameBatch.f k bt237.1 bt237.2.1 bt237.2.2.1 bt237.2.2.2.1 bt237.2.2.2.2.1 bt237.2.2.2.2.2.1 bt247.1 bt247.2.1 bt247.2.2.1 bt247.2.2.2.1 bt247.2.2.2.2.1 bt247.2.2.2.2.2.1).bind fun t257 => (if t257 = true then (laws_FnMarkBatchTwo.j0 k bt232.1 bt232.2.1 bt232.2.2.1 bt232.2.2.2.1 bt232.2.2.2.2 bt237.2.2.2.2.2.2 bt247.2.2.2.2.2.2 (!bt237.2.2.2.2.2.2) bt237.1 bt237.2.1 bt237.2.2.1 bt237.2.2.2.1 bt237.2.2.2.2.1 bt237.2.2.2.2.2.1 bt247.1 bt247.2.1 bt247.2.2.1 bt247.2.2.2.1 bt247.2.2.2.2.1 bt247.2.2.2.2.2.1) else (laws_FnMarkBatchTwo.j0 k bt232.1 bt232.2.1 bt232.2.2.1 bt232.2.2.2.1 bt232.2.2.2.2 bt237.2.2.2.2.2.2 bt247.2.2.2.2.2.2 true bt237.1 bt237.2.1 bt237.2.2.1 bt237.2.2.2.1 bt237.2.2.2.2.1 bt237.2.2.2.2.2.1 bt247.1 bt247.2.1 bt247.2.2.1 bt247.2.2.2.1 bt247.2.2.2.2.1 bt247.2.2.2.2.2.1)))))))
def laws_FnMarkBatchTwo.T11 : Bool × List (List Nat × List Nat) := (true, [([], []), ([0], [0]), ([1], [1]), ([1], [1]), ([2, 3, 1, 1], [1, 2, 3]), ([4, 1], [1, 4]), ([1, 5], [1, 5]), ([6, 4], [6]), ([7], [7]), ([7], [7]), ([9, 7], [7, 9]), ([10, 7], [7, 10]), ([11, 7], [7, 11]), ([8, 12, 7, 7], [7, 8, 12]), ([7, 13], [7, 13]), ([14, 13, 0, 1, 2, 3, 4, 5, 6, 7, 8, 9, 10, 11, 12, 13, 14], [14])])
def laws_FnMarkBatchTwo.B11 : List Nat := [0, 1, 3, 3, 15, 31, 63, 127, 255, 255, 767, 1791, 3839, 8191, 16383, 32767]
theorem laws_FnMarkBatchTwo.tab11 : rtab .any (opsOf Try.f4 11) = laws_FnMarkBatchTwo.T11 := by kernel_rfl
theorem laws_FnMarkBatchTwo.bits11 : waitsOk laws_FnMarkBatchTwo.T11.2 laws_FnMarkBatchTwo.B11 = true := by kernel_rfl
set_option maxHeartbeats 8000000 in
set_option maxRecDepth 100000 in
theorem laws_FnMarkBatchTwo.calls (k : Nat) (A0 : Option Addr) (c0 : Nat) (l0 : List Int) (r : Bool) (w : World) (hr0 : Kd.C (Kd.int .u8) w A0 l0.length l0) (hc0 : l0.length ≤ c0) (h : laws_FnMarkBatchTwo.f k l0 = some r) :
  Calls Try.prog 4 #[.slice A0 l0.length c0] w fun e w' => e = .returned (.bool r) ∧ Below w.heap.size w w' := by
 have hu27 := Try.underlying27
 have hu34 := Try.underlying34
 have HR0 := zzm hr0
 have HC0 := zzm hc0
 clear hr0 hc0
 have HB := zzm (Below.refl w.heap.size w)
 have H : (if (l0.length : Int) > 1048576 then (some true) else ((spec_DrawMarkBatch.f k l0).bind fun bt232 => ((impl_MarkBatch.f k bt232.1 bt232.2.1 bt232.2.2.1 bt232.2.2.2.1 bt232.2.2.2.2).bind fun bt237 => ((spec_MarkBatch.f k bt232.1 bt232.2.1 bt232.2.2.1 bt232.2.2.2.1 bt232.2.2.2.2).bind fun bt247 => (if (bt237.2.2.2.2.2.2 != bt247.2.2.2.2.2.2) = true then (laws_FnMarkBatchTwo.j0 k bt232.1 bt232.2.1 bt232.2.2.1 bt232.2.2.2.1 bt232.2.2.2.2 bt237.2.2.2.2.2.2 bt247.2.2.2.2.2.2 true bt237.1 bt237.2.1 bt237.2.2.1 bt237.2.2.2.1 bt237.2.2.2.2.1 bt237.2.2.2.2.2.1 bt247.1 bt247.2.1 bt247.2.2.1 bt247.2.2.2.1 bt247.2.2.2.2.1 bt247.2.2.2.2.2.1) else ((laws_sameBatch.f k bt237.1 bt237.2.1 bt237.2.2.1 bt237.2.2.2.1 bt237.2.2.2.2.1 bt237.2.2.2.2.2.1 bt247.1 bt247.2.1 bt247.2.2.1 bt247.2.2.2.1 bt247.2.2.2.2.1 bt247.2.2.2.2.2.1).bind fun t257 => (if t257 = true then (laws_FnMarkBatchTwo.j0 k bt232.1 bt232.2.1 bt232.2.2.1 bt232.2.2.2.1 bt232.2.2.2.2 bt237.2.2.2.2.2.2 bt247.2.2.2.2.2.2 (!bt237.2.2.2.2.2.2) bt237.1 bt237.2.1 bt237.2.2.1 bt237.2.2.2.1 bt237.2.2.2.2.1 bt237.2.2.2.2.2.1 bt247.1 bt247.2.1 bt247.2.2.1 bt247.2.2.2.1 bt247.2.2.2.2.1 bt247.2.2.2.2.2.1) else (laws_FnMarkBatchTwo.j0 k bt232.1 bt232.2.1 bt232.2.2.1 bt232.2.2.2.1 bt232.2.2.2.2 bt237.2.2.2.2.2.2 bt247.2.2.2.2.2.2 true bt237.1 bt237.2.1 bt237.2.2.1 bt237.2.2.2.1 bt237.2.2.2.2.1 bt237.2.2.2.2.2.1 bt247.1 bt247.2.1 bt247.2.2.1 bt247.2.2.2.1 bt247.2.2.2.2.1 bt247.2.2.2.2.2.1)))))))) = some r := h
 clear h
 by_cases c2 : (l0.length : Int) > 1048576
 ·
  rw [if_pos c2] at H
  have c2b0 : decide (1048576 < (l0.length : Int)) = true := decide_eq_true c2
  have c2b1 : decide (1048576 < l0.length) = true := decide_eq_true (by omega)
  clear c2
  obtain rfl := Option.some.inj H
  go_enter Try.func4, Try.ntmps4
  go_wp2
  go_ret
  exact ⟨by first | rfl | (simp [errW_none, errW_some] <;> rfl) | (simp [*, errW_none, errW_some] <;> rfl), by repeat (first | (with_reducible first | exact HB.out | apply zza | apply zzb | apply zzc) | exact HB.out)⟩
 ·
  rw [if_neg c2] at H
  have c2b0 : decide (1048576 < (l0.length : Int)) = false := decide_eq_false c2
  have c2b1 : decide (1048576 < l0.length) = false := decide_eq_false (by omega)
  clear c2
  replace H := Option.bind_eq_some_iff.mp H
  obtain ⟨⟨t232, t233, t234, t235, t236⟩, A30, H⟩ := H
  replace H : ((impl_MarkBatch.f k t232 t233 t234 t235 t236).bind fun bt237 => ((spec_MarkBatch.f k t232 t233 t234 t235 t236).bind fun bt247 => (if (bt237.2.2.2.2.2.2 != bt247.2.2.2.2.2.2) = true then (laws_FnMarkBatchTwo.j0 k t232 t233 t234 t235 t236 bt237.2.2.2.2.2.2 bt247.2.2.2.2.2.2 true bt237.1 bt237.2.1 bt237.2.2.1 bt237.2.2.2.1 bt237.2.2.2.2.1 bt237.2.2.2.2.2.1 bt247.1 bt247.2.1 bt247.2.2.1 bt247.2.2.2.1 bt247.2.2.2.2.1 bt247.2.2.2.2.2.1) else ((laws_sameBatch.f k bt237.1 bt237.2.1 bt237.2.2.1 bt237.2.2.2.1 bt237.2.2.2.2.1 bt237.2.2.2.2.2.1 bt247.1 bt247.2.1 bt247.2.2.1 bt247.2.2.2.1 bt247.2.2.2.2.1 bt247.2.2.2.2.2.1).bind fun t257 => (if t257 = true then (laws_FnMarkBatchTwo.j0 k t232 t233 t234 t235 t236 bt237.2.2.2.2.2.2 bt247.2.2.2.2.2.2 (!bt237.2.2.2.2.2.2) bt237.1 bt237.2.1 bt237.2.2.1 bt237.2.2.2.1 bt237.2.2.2.2.1 bt237.2.2.2.2.2.1 bt247.1 bt247.2.1 bt247.2.2.1 bt247.2.2.2.1 bt247.2.2.2.2.1 bt247.2.2.2.2.2.1) else (laws_FnMarkBatchTwo.j0 k t232 t233 t234 t235 t236 bt237.2.2.2.2.2.2 bt247.2.2.2.2.2.2 true bt237.1 bt237.2.1 bt237.2.2.1 bt237.2.2.2.1 bt237.2.2.2.2.1 bt237.2.2.2.2.2.1 bt247.1 bt247.2.1 bt247.2.2.1 bt247.2.2.2.1 bt247.2.2.2.2.1 bt247.2.2.2.2.2.1)))))) = some r := H
  have A3 := zzm A30
  clear A30
  replace H := Option.bind_eq_some_iff.mp H
  obtain ⟨⟨t237, t238, t239, t240, t241, t242, t245⟩, A40, H⟩ := H
  replace H : ((spec_MarkBatch.f k t232 t233 t234 t235 t236).bind fun bt247 => (if (t245 != bt247.2.2.2.2.2.2) = true then (laws_FnMarkBatchTwo.j0 k t232 t233 t234 t235 t236 t245 bt247.2.2.2.2.2.2 true t237 t238 t239 t240 t241 t242 bt247.1 bt247.2.1 bt247.2.2.1 bt247.2.2.2.1 bt247.2.2.2.2.1 bt247.2.2.2.2.2.1) else ((laws_sameBatch.f k t237 t238 t239 t240 t241 t242 bt247.1 bt247.2.1 bt247.2.2.1 bt247.2.2.2.1 bt247.2.2.2.2.1 bt247.2.2.2.2.2.1).bind fun t257 => (if t257 = true then (laws_FnMarkBatchTwo.j0 k t232 t233 t234 t235 t236 t245 bt247.2.2.2.2.2.2 (!t245) t237 t238 t239 t240 t241 t242 bt247.1 bt247.2.1 bt247.2.2.1 bt247.2.2.2.1 bt247.2.2.2.2.1 bt247.2.2.2.2.2.1) else (laws_FnMarkBatchTwo.j0 k t232 t233 t234 t235 t236 t245 bt247.2.2.2.2.2.2 true t237 t238 t239 t240 t241 t242 bt247.1 bt247.2.1 bt247.2.2.1 bt247.2.2.2.1 bt247.2.2.2.2.1 bt247.2.2.2.2.2.1))))) = some r := H
  have A4 := zzm A40
  clear A40
  replace H := Option.bind_eq_some_iff.mp H
  obtain ⟨⟨t247, t248, t249, t250, t251, t252, t255⟩, A50, H⟩ := H
  replace H : (if (t245 != t255) = true then (laws_FnMarkBatchTwo.j0 k t232 t233 t234 t235 t236 t245 t255 true t237 t238 t239 t240 t241 t242 t247 t248 t249 t250 t251 t252) else ((laws_sameBatch.f k t237 t238 t239 t240 t241 t242 t247 t248 t249 t250 t251 t252).bind fun t257 => (if t257 = true then (laws_FnMarkBatchTwo.j0 k t232 t233 t234 t235 t236 t245 t255 (!t245) t237 t238 t239 t240 t241 t242 t247 t248 t249 t250 t251 t252) else (laws_FnMarkBatchTwo.j0 k t232 t233 t234 t235 t236 t245 t255 true t237 t238 t239 t240 t241 t242 t247 t248 t249 t250 t251 t252)))) = some r := H
  have A5 := zzm A50
  clear A50
  have HC6 := zzm H
  clear H
  go_enter Try.func4, Try.ntmps4
  go_upto_region 6 with (first | ((with_reducible refine gate_callee (f := 18) rfl ?_); refine goesL_ (some 20) rfl rfl Try.func18 (by kernel_rfl) rfl #[.slice A0 l0.length c0] rfl (by (try simp only [List.map_toArray, List.map_cons, List.map_nil]); first | done | rfl | (simp only [List.length_drop, List.length_take]; rfl)) ?_; (with_reducible refine (spec_DrawMarkBatch.calls k _ _ l0 t232 t233 t234 t235 t236 _ ?side1 ?side2 A3.out).mono ?_); (case side1 => repeat (first | exact HR0.out | (with_reducible refine Kd.C_alloc ?_ _) | (with_reducible refine Kd.C_drewN ?_ _) | (with_reducible refine Kd.C_drew ?_))); (case side2 => exact HC0.out); rintro e w7 ⟨rfl, hb⟩; refine ⟨_, rfl, ?_⟩; have n0_ := zzm (zzp (by repeat (first | (with_reducible first | exact HB.out | apply zza | apply zzb | apply zzc) | exact HB.out)) hb); clear HB; have HB := n0_; clear n0_; (try clear hb); (try clear hb2); (try clear hk); (try clear hi)) | ((with_reducible refine gate_callee (f := 19) rfl ?_); refine goesL_ (some 32) rfl rfl Try.func19 (by kernel_rfl) rfl #[.int .i64 t232, .int .i64 t233, .int .i64 t234, .int .i64 t235, .bool t236] rfl (by (try simp only [List.map_toArray, List.map_cons, List.map_nil]); first | done | rfl | (simp only [List.length_drop, List.length_take]; rfl)) ?_; (with_reducible refine (impl_MarkBatch.calls k t232 t233 t234 t235 t236 t237 t238 t239 t240 t241 t242 t245 _ A4.out).mono ?_); rintro e w8 ⟨v243, rfl, ho0, hb⟩; refine ⟨_, rfl, ?_⟩; have n0_ := zzm (Kd.N_lower (Kd.N_mono (ok' := fun k_ => True) ho0 (fun k_ hk_ => trivial)) (zzo (by repeat (first | (with_reducible first | exact HB.out | apply zza | apply zzb | apply zzc) | exact HB.out)))); have n1_ := zzm (zzp (by repeat (first | (with_reducible first | exact HB.out | apply zza | apply zzb | apply zzc) | exact HB.out)) hb); clear HB; have HO244 := n0_; have HB := n1_; clear n0_ n1_; (try clear hb); (try clear hb2); (try clear hk); (try clear hi); (try clear ho0)) | ((with_reducible refine gate_dst (N := 8) rfl ?_); refine box_event ?hg (N := 8) ?hd (cs := #[.bool false, .bool false, .int .i64 0, .int .i64 0, .int .i64 0, .slice none 0 0]) (t := 27) ?hr ?_; (case hd => rfl); (case hg => rfl); (case hr => first | (go_simp; done) | (go_simp; rfl)); intro gb246 hg w9 hbox hb; have n0_ := zzm (Kd.N_below (Kd.N_elderB (by (with_reducible repeat (first | apply Kd.N_alloc | apply Kd.N_drewN | apply Kd.N_drew)); exact HO244.out) gb246 (Nat.le_of_eq hg.symm)) hb); have n1_ := zzm (zzp (by repeat (first | (with_reducible first | exact HB.out | apply zza | apply zzb | apply zzc) | exact HB.out)) hb); have n2_ := zzm (hbox); have n3_ := zzm ((by rw [hg]; exact (zzo (by repeat (first | (with_reducible first | exact HB.out | apply zza | apply zzb | apply zzc) | exact HB.out))) : w.heap.size ≤ gb246)); have n4_ := zzm ((by rw [hg]; exact (zzo (by repeat (first | (with_reducible first | exact HB.out | apply zza | apply zzb | apply zzc) | exact HB.out))) : w.heap.size ≤ gb246)); clear HO244 HB; have HO244 := n0_; have HB := n1_; have BK246 := n2_; have GW246 := n3_; have GE246 := n4_; clear n0_ n1_ n2_ n3_ n4_ hb hbox hg; obtain ⟨hcz10_0, hcz10_1, hcz10_2, hcz10_3, hcz10_4, hcz10_5, hfz10_0, hfz10_1, hfz10_2, hfz10_3, hfz10_4, hfz10_5⟩ := zzc6 BK246.out; obtain ⟨Ao11, co11, eo11⟩ := Kd.N_slice HO244.out; subst eo11) | ((with_reducible refine gate_callee (f := 20) rfl ?_); refine goesL_ (some 41) rfl rfl Try.func20 (by kernel_rfl) rfl #[.int .i64 t232, .int .i64 t233, .int .i64 t234, .int .i64 t235, .bool t236] rfl (by (try simp only [List.map_toArray, List.map_cons, List.map_nil]); first | done | rfl | (simp only [List.length_drop, List.length_take]; rfl)) ?_; (with_reducible refine (spec_MarkBatch.calls k t232 t233 t234 t235 t236 t247 t248 t249 t250 t251 t252 t255 _ A5.out).mono ?_); rintro e w12 ⟨v253, rfl, ho0, hb⟩; refine ⟨_, rfl, ?_⟩; have n0_ := zzm (Kd.N_elder' (by (with_reducible repeat (first | apply Kd.N_alloc | apply Kd.N_drewN | apply Kd.N_drew)); exact (Kd.N_mono (Kd.N_far (p := ⟨gb246, 5, none⟩) (Kd.N_far (p := ⟨gb246, 4, none⟩) (Kd.N_far (p := ⟨gb246, 3, none⟩) (Kd.N_far (p := ⟨gb246, 2, none⟩) (Kd.N_far (p := ⟨gb246, 1, none⟩) (Kd.N_far (p := ⟨gb246, 0, none⟩) (Kd.N_mono HO244.out (fun k_ hk => (⟨hk, hk.2⟩ : _ ∧ k_ ≠ gb246))) (fun _ hk => hk.2) (.bool t237)) (fun _ hk => hk.2) (.bool t238)) (fun _ hk => hk.2) (.int .i64 t239)) (fun _ hk => hk.2) (.int .i64 t240)) (fun _ hk => hk.2) (.int .i64 t241)) (fun _ hk => hk.2) (.slice Ao11 t242.length co11)) (fun _ h_ => h_.1))) (Kd.N_base ho0) hb); have n1_ := zzm (Kd.N_lower (Kd.N_mono (ok' := fun k_ => some k_ ≠ (.slice Ao11 t242.length co11 : Value).ownBlock ∧ k_ ≠ gb246) ho0 (fun k_ hk_ => ⟨(Kd.fresh' (Kd.N_lt (by (with_reducible repeat (first | apply Kd.N_alloc | apply Kd.N_drewN | apply Kd.N_drew)); exact (Kd.N_mono (Kd.N_far (p := ⟨gb246, 5, none⟩) (Kd.N_far (p := ⟨gb246, 4, none⟩) (Kd.N_far (p := ⟨gb246, 3, none⟩) (Kd.N_far (p := ⟨gb246, 2, none⟩) (Kd.N_far (p := ⟨gb246, 1, none⟩) (Kd.N_far (p := ⟨gb246, 0, none⟩) (Kd.N_mono HO244.out (fun k_ hk => (⟨hk, hk.2⟩ : _ ∧ k_ ≠ gb246))) (fun _ hk => hk.2) (.bool t237)) (fun _ hk => hk.2) (.bool t238)) (fun _ hk => hk.2) (.int .i64 t239)) (fun _ hk => hk.2) (.int .i64 t240)) (fun _ hk => hk.2) (.int .i64 t241)) (fun _ hk => hk.2) (.slice Ao11 t242.length co11)) (fun _ h_ => h_.1)))) k_ hk_), (Kd.freshB (g := gb246) (o := .cells #[.bool t237, .bool t238, .int .i64 t239, .int .i64 t240, .int .i64 t241, .slice Ao11 t242.length co11] 27 (0, 0)) (by (with_reducible repeat (first | refine zzf ?_ _ | refine zzg ?_ | refine zze ?_ _)); refine zzi (cs := #[.bool t237, .bool t238, .int .i64 t239, .int .i64 t240, .int .i64 t241, .slice none 0 0]) ?_ 5 _ rfl; (with_reducible repeat (first | refine zzf ?_ _ | refine zzg ?_ | refine zze ?_ _)); refine zzi (cs := #[.bool t237, .bool t238, .int .i64 t239, .int .i64 t240, .int .i64 0, .slice none 0 0]) ?_ 4 _ rfl; (with_reducible repeat (first | refine zzf ?_ _ | refine zzg ?_ | refine zze ?_ _)); refine zzi (cs := #[.bool t237, .bool t238, .int .i64 t239, .int .i64 0, .int .i64 0, .slice none 0 0]) ?_ 3 _ rfl; (with_reducible repeat (first | refine zzf ?_ _ | refine zzg ?_ | refine zze ?_ _)); refine zzi (cs := #[.bool t237, .bool t238, .int .i64 0, .int .i64 0, .int .i64 0, .slice none 0 0]) ?_ 2 _ rfl; (with_reducible repeat (first | refine zzf ?_ _ | refine zzg ?_ | refine zze ?_ _)); refine zzi (cs := #[.bool t237, .bool false, .int .i64 0, .int .i64 0, .int .i64 0, .slice none 0 0]) ?_ 1 _ rfl; (with_reducible repeat (first | refine zzf ?_ _ | refine zzg ?_ | refine zze ?_ _)); refine zzi (cs := #[.bool false, .bool false, .int .i64 0, .int .i64 0, .int .i64 0, .slice none 0 0]) ?_ 0 _ rfl; (with_reducible repeat (first | refine zzf ?_ _ | refine zzg ?_ | refine zze ?_ _)); exact BK246.out) k_ hk_)⟩)) (zzo (by repeat (first | (with_reducible first | exact HB.out | apply zza | apply zzb | apply zzc | refine zzd ?_ GE246.out) | exact HB.out)))); have n2_ := zzm (zzh (g := gb246) (o := .cells #[.bool t237, .bool t238, .int .i64 t239, .int .i64 t240, .int .i64 t241, .slice Ao11 t242.length co11] 27 (0, 0)) (by (with_reducible repeat (first | refine zzf ?_ _ | refine zzg ?_ | refine zze ?_ _)); refine zzi (cs := #[.bool t237, .bool t238, .int .i64 t239, .int .i64 t240, .int .i64 t241, .slice none 0 0]) ?_ 5 _ rfl; (with_reducible repeat (first | refine zzf ?_ _ | refine zzg ?_ | refine zze ?_ _)); refine zzi (cs := #[.bool t237, .bool t238, .int .i64 t239, .int .i64 t240, .int .i64 0, .slice none 0 0]) ?_ 4 _ rfl; (with_reducible repeat (first | refine zzf ?_ _ | refine zzg ?_ | refine zze ?_ _)); refine zzi (cs := #[.bool t237, .bool t238, .int .i64 t239, .int .i64 0, .int .i64 0, .slice none 0 0]) ?_ 3 _ rfl; (with_reducible repeat (first | refine zzf ?_ _ | refine zzg ?_ | refine zze ?_ _)); refine zzi (cs := #[.bool t237, .bool t238, .int .i64 0, .int .i64 0, .int .i64 0, .slice none 0 0]) ?_ 2 _ rfl; (with_reducible repeat (first | refine zzf ?_ _ | refine zzg ?_ | refine zze ?_ _)); refine zzi (cs := #[.bool t237, .bool false, .int .i64 0, .int .i64 0, .int .i64 0, .slice none 0 0]) ?_ 1 _ rfl; (with_reducible repeat (first | refine zzf ?_ _ | refine zzg ?_ | refine zze ?_ _)); refine zzi (cs := #[.bool false, .bool false, .int .i64 0, .int .i64 0, .int .i64 0, .slice none 0 0]) ?_ 0 _ rfl; (with_reducible repeat (first | refine zzf ?_ _ | refine zzg ?_ | refine zze ?_ _)); exact BK246.out) hb); have n3_ := zzm (zzp (by repeat (first | (with_reducible first | exact HB.out | apply zza | apply zzb | apply zzc | refine zzd ?_ GE246.out) | exact HB.out)) hb); clear HO244 BK246 HB; have HO244 := n0_; have HO254 := n1_; have BK246 := n2_; have HB := n3_; clear n0_ n1_ n2_ n3_; (try clear hb); (try clear hb2); (try clear hk); (try clear hi); (try clear ho0)) | ((with_reducible refine gate_dst (N := 10) rfl ?_); refine box_event ?hg (N := 10) ?hd (cs := #[.bool false, .bool false, .int .i64 0, .int .i64 0, .int .i64 0, .slice none 0 0]) (t := 27) ?hr ?_; (case hd => rfl); (case hg => rfl); (case hr => first | (go_simp; done) | (go_simp; rfl)); intro gb256 hg w13 hbox hb; have n0_ := zzm (Kd.N_below (Kd.N_elderB (by (with_reducible repeat (first | apply Kd.N_alloc | apply Kd.N_drewN | apply Kd.N_drew)); exact HO244.out) gb256 (Nat.le_of_eq hg.symm)) hb); have n1_ := zzm (Kd.N_below (Kd.N_elderB (by (with_reducible repeat (first | apply Kd.N_alloc | apply Kd.N_drewN | apply Kd.N_drew)); exact HO254.out) gb256 (Nat.le_of_eq hg.symm)) hb); have n2_ := zzm (zzh (g := gb246) (o := .cells #[.bool t237, .bool t238, .int .i64 t239, .int .i64 t240, .int .i64 t241, .slice Ao11 t242.length co11] 27 (0, 0)) (by (with_reducible repeat (first | refine zzf ?_ _ | refine zzg ?_ | refine zze ?_ _)); exact BK246.out) hb); have n3_ := zzm (zzp (by repeat (first | (with_reducible first | exact HB.out | apply zza | apply zzb | apply zzc | refine zzd ?_ GE246.out) | exact HB.out)) hb); have n4_ := zzm (hbox); have n5_ := zzm ((by rw [hg]; exact (zzo (by repeat (first | (with_reducible first | exact HB.out | apply zza | apply zzb | apply zzc | refine zzd ?_ GE246.out) | exact HB.out))) : w.heap.size ≤ gb256)); have n6_ := zzm ((by rw [hg]; exact (zzo (by repeat (first | (with_reducible first | exact HB.out | apply zza | apply zzb | apply zzc | refine zzd ?_ GE246.out) | exact HB.out))) : w.heap.size ≤ gb256)); have n7_ := zzm ((by rw [hg]; exact Nat.ne_of_lt (blk_lt (g := gb246) (o := .cells #[.bool t237, .bool t238, .int .i64 t239, .int .i64 t240, .int .i64 t241, .slice Ao11 t242.length co11] 27 (0, 0)) (by (with_reducible repeat (first | refine zzf ?_ _ | refine zzg ?_ | refine zze ?_ _)); exact BK246.out)) : gb246 ≠ gb256)); have n8_ := zzm ((by rw [hg]; exact Nat.ne_of_gt (blk_lt (g := gb246) (o := .cells #[.bool t237, .bool t238, .int .i64 t239, .int .i64 t240, .int .i64 t241, .slice Ao11 t242.length co11] 27 (0, 0)) (by (with_reducible repeat (first | refine zzf ?_ _ | refine zzg ?_ | refine zze ?_ _)); exact BK246.out)) : gb256 ≠ gb246)); clear HO244 HO254 BK246 HB; have HO244 := n0_; have HO254 := n1_; have BK246 := n2_; have HB := n3_; have BK256 := n4_; have GW256 := n5_; have GE256 := n6_; have NB246_256 := n7_; have NB256_246 := n8_; clear n0_ n1_ n2_ n3_ n4_ n5_ n6_ n7_ n8_ hb hbox hg; have hnb14 := NB256_246.out; have hnc14 := NB246_256.out; obtain ⟨hcz15_0, hcz15_1, hcz15_2, hcz15_3, hcz15_4, hcz15_5, hfz15_0, hfz15_1, hfz15_2, hfz15_3, hfz15_4, hfz15_5⟩ := zzc6 BK256.out; obtain ⟨Ao16, co16, eo16⟩ := Kd.N_slice HO254.out; subst eo16))
  (try simp only [Act.put, zzq, zzr, zzs])
  go_cut [56] (fun v56 wc => ∃ (kq : Nat) (x56_5 : Bool), v56 = .bool x56_5 ∧ Aside0 (laws_FnMarkBatchTwo.j0 kq t232 t233 t234 t235 t236 t245 t255 x56_5 t237 t238 t239 t240 t241 t242 t247 t248 t249 t250 t251 t252 = some r) ∧ Aside0 (kq ≤ k) ∧ Aside0 (Kd.N k34 34 wc w.heap.size (fun k_ => some k_ ≠ ((.slice Ao16 t252.length co16) : Value).ownBlock ∧ k_ ≠ gb246 ∧ k_ ≠ gb256) (.slice Ao11 t242.length co11) t242) ∧ Aside0 (Kd.N k34 34 wc w.heap.size (fun k_ => some k_ ≠ ((.slice Ao11 t242.length co11) : Value).ownBlock ∧ k_ ≠ gb246 ∧ k_ ≠ gb256) (.slice Ao16 t252.length co16) t252) ∧ Aside0 (wc.heap[gb246]? = some (.cells #[.bool t237, .bool t238, .int .i64 t239, .int .i64 t240, .int .i64 t241, (.slice Ao11 t242.length co11)] 27 (0, 0))) ∧ Aside0 (wc.heap[gb256]? = some (.cells #[.bool t247, .bool t248, .int .i64 t249, .int .i64 t250, .int .i64 t251, (.slice Ao16 t252.length co16)] 27 (0, 0))) ∧ Aside0 (Below w.heap.size w wc))
  case first =>
   have H := HC6.out
   clear HC6
   by_cases c17 : (t245 != t255) = true
   ·
    rw [if_pos c17] at H
    have c17b0 : (t245 != t255) = true := c17
    (try (have c17b1 : decide (t245 = t255) = false := by simpa using c17))
    (try (have c17b2 : (t245 == t255) = false := by simpa using c17))
    (try (have c17b3 : ¬ (t245 = t255) := by simpa using c17))
    clear c17
    (first | rw [c17b0] | (simp only [i64_w, i32_w]; rw [c17b0]) | skip)
    have H' := zzm H
    clear H
    go_wp2
    go_meet
    case rel => exact ⟨_, (true), (by first | rfl | (simp; done) | (simp [*]; done)), H', ⟨by first | omega | exact Nat.le_refl _⟩, ⟨by (with_reducible repeat (first | apply Kd.N_alloc | apply Kd.N_drewN | apply Kd.N_drew)); exact Kd.N_mono (Kd.N_far (p := ⟨gb256, 5, none⟩) (Kd.N_far (p := ⟨gb256, 4, none⟩) (Kd.N_far (p := ⟨gb256, 3, none⟩) (Kd.N_far (p := ⟨gb256, 2, none⟩) (Kd.N_far (p := ⟨gb256, 1, none⟩) (Kd.N_far (p := ⟨gb256, 0, none⟩) (Kd.N_mono HO244.out (fun k_ hk => (⟨hk, hk.2⟩ : _ ∧ k_ ≠ gb256))) (fun _ hk => hk.2) (.bool t247)) (fun _ hk => hk.2) (.bool t248)) (fun _ hk => hk.2) (.int .i64 t249)) (fun _ hk => hk.2) (.int .i64 t250)) (fun _ hk => hk.2) (.int .i64 t251)) (fun _ hk => hk.2) (.slice Ao16 t252.length co16)) (fun _ hk => ⟨hk.1.1.2, ⟨hk.1.1.1.2, hk.1.2⟩⟩)⟩, ⟨by (with_reducible repeat (first | apply Kd.N_alloc | apply Kd.N_drewN | apply Kd.N_drew)); exact Kd.N_mono (Kd.N_far (p := ⟨gb256, 5, none⟩) (Kd.N_far (p := ⟨gb256, 4, none⟩) (Kd.N_far (p := ⟨gb256, 3, none⟩) (Kd.N_far (p := ⟨gb256, 2, none⟩) (Kd.N_far (p := ⟨gb256, 1, none⟩) (Kd.N_far (p := ⟨gb256, 0, none⟩) (Kd.N_mono HO254.out (fun k_ hk => (⟨hk, hk.2⟩ : _ ∧ k_ ≠ gb256))) (fun _ hk => hk.2) (.bool t247)) (fun _ hk => hk.2) (.bool t248)) (fun _ hk => hk.2) (.int .i64 t249)) (fun _ hk => hk.2) (.int .i64 t250)) (fun _ hk => hk.2) (.int .i64 t251)) (fun _ hk => hk.2) (.slice Ao16 t252.length co16)) (fun _ hk => ⟨hk.1.1.1, ⟨hk.1.1.2, hk.1.2⟩⟩)⟩, ⟨by (with_reducible repeat (first | refine zzf ?_ _ | refine zzg ?_ | refine zze ?_ _)); refine zzj ?_ NB246_256.out _; (with_reducible repeat (first | refine zzf ?_ _ | refine zzg ?_ | refine zze ?_ _)); refine zzj ?_ NB246_256.out _; (with_reducible repeat (first | refine zzf ?_ _ | refine zzg ?_ | refine zze ?_ _)); refine zzj ?_ NB246_256.out _; (with_reducible repeat (first | refine zzf ?_ _ | refine zzg ?_ | refine zze ?_ _)); refine zzj ?_ NB246_256.out _; (with_reducible repeat (first | refine zzf ?_ _ | refine zzg ?_ | refine zze ?_ _)); refine zzj ?_ NB246_256.out _; (with_reducible repeat (first | refine zzf ?_ _ | refine zzg ?_ | refine zze ?_ _)); refine zzj ?_ NB246_256.out _; (with_reducible repeat (first | refine zzf ?_ _ | refine zzg ?_ | refine zze ?_ _)); exact BK246.out⟩, ⟨by (with_reducible repeat (first | refine zzf ?_ _ | refine zzg ?_ | refine zze ?_ _)); refine zzi (cs := #[.bool t247, .bool t248, .int .i64 t249, .int .i64 t250, .int .i64 t251, .slice none 0 0]) ?_ 5 _ rfl; (with_reducible repeat (first | refine zzf ?_ _ | refine zzg ?_ | refine zze ?_ _)); refine zzi (cs := #[.bool t247, .bool t248, .int .i64 t249, .int .i64 t250, .int .i64 0, .slice none 0 0]) ?_ 4 _ rfl; (with_reducible repeat (first | refine zzf ?_ _ | refine zzg ?_ | refine zze ?_ _)); refine zzi (cs := #[.bool t247, .bool t248, .int .i64 t249, .int .i64 0, .int .i64 0, .slice none 0 0]) ?_ 3 _ rfl; (with_reducible repeat (first | refine zzf ?_ _ | refine zzg ?_ | refine zze ?_ _)); refine zzi (cs := #[.bool t247, .bool t248, .int .i64 0, .int .i64 0, .int .i64 0, .slice none 0 0]) ?_ 2 _ rfl; (with_reducible repeat (first | refine zzf ?_ _ | refine zzg ?_ | refine zze ?_ _)); refine zzi (cs := #[.bool t247, .bool false, .int .i64 0, .int .i64 0, .int .i64 0, .slice none 0 0]) ?_ 1 _ rfl; (with_reducible repeat (first | refine zzf ?_ _ | refine zzg ?_ | refine zze ?_ _)); refine zzi (cs := #[.bool false, .bool false, .int .i64 0, .int .i64 0, .int .i64 0, .slice none 0 0]) ?_ 0 _ rfl; (with_reducible repeat (first | refine zzf ?_ _ | refine zzg ?_ | refine zze ?_ _)); exact BK256.out⟩, ⟨by repeat (first | (with_reducible first | exact HB.out | apply zza | apply zzb | apply zzc | refine zzd ?_ GE246.out | refine zzd ?_ GE256.out) | exact HB.out)⟩⟩
   ·
    rw [if_neg c17] at H
    have c17b0 : (t245 != t255) = false := by simpa using c17
    (try (have c17b1 : decide (t245 = t255) = true := by simpa using c17))
    (try (have c17b2 : (t245 == t255) = true := by simpa using c17))
    clear c17
    (first | rw [c17b0] | (simp only [i64_w, i32_w]; rw [c17b0]) | skip)
    replace H := Option.bind_eq_some_iff.mp H
    obtain ⟨t257, A180, H⟩ := H
    replace H : (if t257 = true then (laws_FnMarkBatchTwo.j0 k t232 t233 t234 t235 t236 t245 t255 (!t245) t237 t238 t239 t240 t241 t242 t247 t248 t249 t250 t251 t252) else (laws_FnMarkBatchTwo.j0 k t232 t233 t234 t235 t236 t245 t255 true t237 t238 t239 t240 t241 t242 t247 t248 t249 t250 t251 t252)) = some r := H
    have A18 := zzm A180
    clear A180
    by_cases c19 : t257 = true
    ·
     subst c19
     have H1 : (laws_FnMarkBatchTwo.j0 k t232 t233 t234 t235 t236 t245 t255 (!t245) t237 t238 t239 t240 t241 t242 t247 t248 t249 t250 t251 t252) = some r := by rw [if_pos rfl] at H; exact H
     clear H
     have H := H1
     clear H1
     have H' := zzm H
     clear H
     have hnb20 := NB246_256.out
     have hnc20 := NB256_246.out
     obtain ⟨hcz21_0, hcz21_1, hcz21_2, hcz21_3, hcz21_4, hcz21_5, hfz21_0, hfz21_1, hfz21_2, hfz21_3, hfz21_4, hfz21_5⟩ := zzc6 BK246.out
     obtain ⟨hcz22_0, hcz22_1, hcz22_2, hcz22_3, hcz22_4, hcz22_5, hfz22_0, hfz22_1, hfz22_2, hfz22_3, hfz22_4, hfz22_5⟩ := zzc6 BK256.out
     go_wp2_with (first | (go_at_call 21; (with_reducible refine (laws_sameBatch.calls k t237 t238 t239 t240 t241 _ _ t242 t247 t248 t249 t250 t251 _ _ t252 true _ ?side1 ?side2 ?side3 ?side4 A18.out).mono ?_); (case side1 => refine (Kd.N_reads' (e := 34) (base := w.heap.size) (ok := fun k_ => (((True ∧ k_ ≠ gb246) ∧ some k_ ≠ (.slice Ao16 t252.length co16 : Value).ownBlock) ∧ k_ ≠ gb256)) (n := t242.length) (c := co11) ?_).2.2; exact (by (with_reducible repeat (first | apply Kd.N_alloc | apply Kd.N_drewN | apply Kd.N_drew)); exact (Kd.N_mono (Kd.N_far (p := ⟨gb256, 5, none⟩) (Kd.N_far (p := ⟨gb256, 4, none⟩) (Kd.N_far (p := ⟨gb256, 3, none⟩) (Kd.N_far (p := ⟨gb256, 2, none⟩) (Kd.N_far (p := ⟨gb256, 1, none⟩) (Kd.N_far (p := ⟨gb256, 0, none⟩) (Kd.N_mono HO244.out (fun k_ hk => (⟨hk, hk.2⟩ : _ ∧ k_ ≠ gb256))) (fun _ hk => hk.2) (.bool t247)) (fun _ hk => hk.2) (.bool t248)) (fun _ hk => hk.2) (.int .i64 t249)) (fun _ hk => hk.2) (.int .i64 t250)) (fun _ hk => hk.2) (.int .i64 t251)) (fun _ hk => hk.2) (.slice Ao16 t252.length co16)) (fun _ h_ => h_.1)))); (case side2 => exact (Kd.N_reads' HO244.out).2.1); (case side3 => refine (Kd.N_reads' (e := 34) (base := w.heap.size) (ok := fun k_ => ((some k_ ≠ (.slice Ao11 t242.length co11 : Value).ownBlock ∧ k_ ≠ gb246) ∧ k_ ≠ gb256)) (n := t252.length) (c := co16) ?_).2.2; exact (by (with_reducible repeat (first | apply Kd.N_alloc | apply Kd.N_drewN | apply Kd.N_drew)); exact (Kd.N_mono (Kd.N_far (p := ⟨gb256, 5, none⟩) (Kd.N_far (p := ⟨gb256, 4, none⟩) (Kd.N_far (p := ⟨gb256, 3, none⟩) (Kd.N_far (p := ⟨gb256, 2, none⟩) (Kd.N_far (p := ⟨gb256, 1, none⟩) (Kd.N_far (p := ⟨gb256, 0, none⟩) (Kd.N_mono HO254.out (fun k_ hk => (⟨hk, hk.2⟩ : _ ∧ k_ ≠ gb256))) (fun _ hk => hk.2) (.bool t247)) (fun _ hk => hk.2) (.bool t248)) (fun _ hk => hk.2) (.int .i64 t249)) (fun _ hk => hk.2) (.int .i64 t250)) (fun _ hk => hk.2) (.int .i64 t251)) (fun _ hk => hk.2) (.slice Ao16 t252.length co16)) (fun _ h_ => h_.1)))); (case side4 => exact (Kd.N_reads' HO254.out).2.1); rintro e w23 ⟨rfl, hb⟩; have n0_ := zzm (Kd.N_below (by (with_reducible repeat (first | apply Kd.N_alloc | apply Kd.N_drewN | apply Kd.N_drew)); exact (Kd.N_mono (Kd.N_far (p := ⟨gb256, 5, none⟩) (Kd.N_far (p := ⟨gb256, 4, none⟩) (Kd.N_far (p := ⟨gb256, 3, none⟩) (Kd.N_far (p := ⟨gb256, 2, none⟩) (Kd.N_far (p := ⟨gb256, 1, none⟩) (Kd.N_far (p := ⟨gb256, 0, none⟩) (Kd.N_mono HO244.out (fun k_ hk => (⟨hk, hk.2⟩ : _ ∧ k_ ≠ gb256))) (fun _ hk => hk.2) (.bool t247)) (fun _ hk => hk.2) (.bool t248)) (fun _ hk => hk.2) (.int .i64 t249)) (fun _ hk => hk.2) (.int .i64 t250)) (fun _ hk => hk.2) (.int .i64 t251)) (fun _ hk => hk.2) (.slice Ao16 t252.length co16)) (fun _ h_ => h_.1))) hb); have n1_ := zzm (Kd.N_below (by (with_reducible repeat (first | apply Kd.N_alloc | apply Kd.N_drewN | apply Kd.N_drew)); exact (Kd.N_mono (Kd.N_far (p := ⟨gb256, 5, none⟩) (Kd.N_far (p := ⟨gb256, 4, none⟩) (Kd.N_far (p := ⟨gb256, 3, none⟩) (Kd.N_far (p := ⟨gb256, 2, none⟩) (Kd.N_far (p := ⟨gb256, 1, none⟩) (Kd.N_far (p := ⟨gb256, 0, none⟩) (Kd.N_mono HO254.out (fun k_ hk => (⟨hk, hk.2⟩ : _ ∧ k_ ≠ gb256))) (fun _ hk => hk.2) (.bool t247)) (fun _ hk => hk.2) (.bool t248)) (fun _ hk => hk.2) (.int .i64 t249)) (fun _ hk => hk.2) (.int .i64 t250)) (fun _ hk => hk.2) (.int .i64 t251)) (fun _ hk => hk.2) (.slice Ao16 t252.length co16)) (fun _ h_ => h_.1))) hb); have n2_ := zzm (zzh (g := gb246) (o := .cells #[.bool t237, .bool t238, .int .i64 t239, .int .i64 t240, .int .i64 t241, .slice Ao11 t242.length co11] 27 (0, 0)) (by (with_reducible repeat (first | refine zzf ?_ _ | refine zzg ?_ | refine zze ?_ _)); refine zzj ?_ NB246_256.out _; (with_reducible repeat (first | refine zzf ?_ _ | refine zzg ?_ | refine zze ?_ _)); refine zzj ?_ NB246_256.out _; (with_reducible repeat (first | refine zzf ?_ _ | refine zzg ?_ | refine zze ?_ _)); refine zzj ?_ NB246_256.out _; (with_reducible repeat (first | refine zzf ?_ _ | refine zzg ?_ | refine zze ?_ _)); refine zzj ?_ NB246_256.out _; (with_reducible repeat (first | refine zzf ?_ _ | refine zzg ?_ | refine zze ?_ _)); refine zzj ?_ NB246_256.out _; (with_reducible repeat (first | refine zzf ?_ _ | refine zzg ?_ | refine zze ?_ _)); refine zzj ?_ NB246_256.out _; (with_reducible repeat (first | refine zzf ?_ _ | refine zzg ?_ | refine zze ?_ _)); exact BK246.out) hb); have n3_ := zzm (zzh (g := gb256) (o := .cells #[.bool t247, .bool t248, .int .i64 t249, .int .i64 t250, .int .i64 t251, .slice Ao16 t252.length co16] 27 (0, 0)) (by (with_reducible repeat (first | refine zzf ?_ _ | refine zzg ?_ | refine zze ?_ _)); refine zzi (cs := #[.bool t247, .bool t248, .int .i64 t249, .int .i64 t250, .int .i64 t251, .slice none 0 0]) ?_ 5 _ rfl; (with_reducible repeat (first | refine zzf ?_ _ | refine zzg ?_ | refine zze ?_ _)); refine zzi (cs := #[.bool t247, .bool t248, .int .i64 t249, .int .i64 t250, .int .i64 0, .slice none 0 0]) ?_ 4 _ rfl; (with_reducible repeat (first | refine zzf ?_ _ | refine zzg ?_ | refine zze ?_ _)); refine zzi (cs := #[.bool t247, .bool t248, .int .i64 t249, .int .i64 0, .int .i64 0, .slice none 0 0]) ?_ 3 _ rfl; (with_reducible repeat (first | refine zzf ?_ _ | refine zzg ?_ | refine zze ?_ _)); refine zzi (cs := #[.bool t247, .bool t248, .int .i64 0, .int .i64 0, .int .i64 0, .slice none 0 0]) ?_ 2 _ rfl; (with_reducible repeat (first | refine zzf ?_ _ | refine zzg ?_ | refine zze ?_ _)); refine zzi (cs := #[.bool t247, .bool false, .int .i64 0, .int .i64 0, .int .i64 0, .slice none 0 0]) ?_ 1 _ rfl; (with_reducible repeat (first | refine zzf ?_ _ | refine zzg ?_ | refine zze ?_ _)); refine zzi (cs := #[.bool false, .bool false, .int .i64 0, .int .i64 0, .int .i64 0, .slice none 0 0]) ?_ 0 _ rfl; (with_reducible repeat (first | refine zzf ?_ _ | refine zzg ?_ | refine zze ?_ _)); exact BK256.out) hb); have n4_ := zzm (zzp (by repeat (first | (with_reducible first | exact HB.out | apply zza | apply zzb | apply zzc | refine zzd ?_ GE246.out | refine zzd ?_ GE256.out) | exact HB.out)) hb); clear HO244 HO254 BK246 BK256 HB; have HO244 := n0_; have HO254 := n1_; have BK246 := n2_; have BK256 := n3_; have HB := n4_; clear n0_ n1_ n2_ n3_ n4_; (try clear hb); (try clear hb2); (try clear hk); (try clear hi)))
     go_meet
     case rel => exact ⟨_, (!t245), (by first | rfl | (simp; done) | (simp [*]; done)), H', ⟨by first | omega | exact Nat.le_refl _⟩, ⟨by (with_reducible repeat (first | apply Kd.N_alloc | apply Kd.N_drewN | apply Kd.N_drew)); exact Kd.N_mono HO244.out (fun _ hk => ⟨hk.1.2, ⟨hk.1.1.2, hk.2⟩⟩)⟩, ⟨by (with_reducible repeat (first | apply Kd.N_alloc | apply Kd.N_drewN | apply Kd.N_drew)); exact Kd.N_mono HO254.out (fun _ hk => ⟨hk.1.1, ⟨hk.1.2, hk.2⟩⟩)⟩, ⟨by (with_reducible repeat (first | refine zzf ?_ _ | refine zzg ?_ | refine zze ?_ _)); exact BK246.out⟩, ⟨by (with_reducible repeat (first | refine zzf ?_ _ | refine zzg ?_ | refine zze ?_ _)); exact BK256.out⟩, ⟨by repeat (first | (with_reducible first | exact HB.out | apply zza | apply zzb | apply zzc | refine zzd ?_ GE246.out | refine zzd ?_ GE256.out) | exact HB.out)⟩⟩
    ·
     replace c19 := Bool.eq_false_iff.mpr c19
     subst c19
     have H1 : (laws_FnMarkBatchTwo.j0 k t232 t233 t234 t235 t236 t245 t255 true t237 t238 t239 t240 t241 t242 t247 t248 t249 t250 t251 t252) = some r := by rw [if_neg (show ¬ (false = true) by decide)] at H; exact H
     clear H
     have H := H1
     clear H1
     have H' := zzm H
     clear H
     have hnb24 := NB246_256.out
     have hnc24 := NB256_246.out
     obtain ⟨hcz25_0, hcz25_1, hcz25_2, hcz25_3, hcz25_4, hcz25_5, hfz25_0, hfz25_1, hfz25_2, hfz25_3, hfz25_4, hfz25_5⟩ := zzc6 BK246.out
     obtain ⟨hcz26_0, hcz26_1, hcz26_2, hcz26_3, hcz26_4, hcz26_5, hfz26_0, hfz26_1, hfz26_2, hfz26_3, hfz26_4, hfz26_5⟩ := zzc6 BK256.out
     go_wp2_with (first | (go_at_call 21; (with_reducible refine (laws_sameBatch.calls k t237 t238 t239 t240 t241 _ _ t242 t247 t248 t249 t250 t251 _ _ t252 false _ ?side1 ?side2 ?side3 ?side4 A18.out).mono ?_); (case side1 => refine (Kd.N_reads' (e := 34) (base := w.heap.size) (ok := fun k_ => (((True ∧ k_ ≠ gb246) ∧ some k_ ≠ (.slice Ao16 t252.length co16 : Value).ownBlock) ∧ k_ ≠ gb256)) (n := t242.length) (c := co11) ?_).2.2; exact (by (with_reducible repeat (first | apply Kd.N_alloc | apply Kd.N_drewN | apply Kd.N_drew)); exact (Kd.N_mono (Kd.N_far (p := ⟨gb256, 5, none⟩) (Kd.N_far (p := ⟨gb256, 4, none⟩) (Kd.N_far (p := ⟨gb256, 3, none⟩) (Kd.N_far (p := ⟨gb256, 2, none⟩) (Kd.N_far (p := ⟨gb256, 1, none⟩) (Kd.N_far (p := ⟨gb256, 0, none⟩) (Kd.N_mono HO244.out (fun k_ hk => (⟨hk, hk.2⟩ : _ ∧ k_ ≠ gb256))) (fun _ hk => hk.2) (.bool t247)) (fun _ hk => hk.2) (.bool t248)) (fun _ hk => hk.2) (.int .i64 t249)) (fun _ hk => hk.2) (.int .i64 t250)) (fun _ hk => hk.2) (.int .i64 t251)) (fun _ hk => hk.2) (.slice Ao16 t252.length co16)) (fun _ h_ => h_.1)))); (case side2 => exact (Kd.N_reads' HO244.out).2.1); (case side3 => refine (Kd.N_reads' (e := 34) (base := w.heap.size) (ok := fun k_ => ((some k_ ≠ (.slice Ao11 t242.length co11 : Value).ownBlock ∧ k_ ≠ gb246) ∧ k_ ≠ gb256)) (n := t252.length) (c := co16) ?_).2.2; exact (by (with_reducible repeat (first | apply Kd.N_alloc | apply Kd.N_drewN | apply Kd.N_drew)); exact (Kd.N_mono (Kd.N_far (p := ⟨gb256, 5, none⟩) (Kd.N_far (p := ⟨gb256, 4, none⟩) (Kd.N_far (p := ⟨gb256, 3, none⟩) (Kd.N_far (p := ⟨gb256, 2, none⟩) (Kd.N_far (p := ⟨gb256, 1, none⟩) (Kd.N_far (p := ⟨gb256, 0, none⟩) (Kd.N_mono HO254.out (fun k_ hk => (⟨hk, hk.2⟩ : _ ∧ k_ ≠ gb256))) (fun _ hk => hk.2) (.bool t247)) (fun _ hk => hk.2) (.bool t248)) (fun _ hk => hk.2) (.int .i64 t249)) (fun _ hk => hk.2) (.int .i64 t250)) (fun _ hk => hk.2) (.int .i64 t251)) (fun _ hk => hk.2) (.slice Ao16 t252.length co16)) (fun _ h_ => h_.1)))); (case side4 => exact (Kd.N_reads' HO254.out).2.1); rintro e w27 ⟨rfl, hb⟩; have n0_ := zzm (Kd.N_below (by (with_reducible repeat (first | apply Kd.N_alloc | apply Kd.N_drewN | apply Kd.N_drew)); exact (Kd.N_mono (Kd.N_far (p := ⟨gb256, 5, none⟩) (Kd.N_far (p := ⟨gb256, 4, none⟩) (Kd.N_far (p := ⟨gb256, 3, none⟩) (Kd.N_far (p := ⟨gb256, 2, none⟩) (Kd.N_far (p := ⟨gb256, 1, none⟩) (Kd.N_far (p := ⟨gb256, 0, none⟩) (Kd.N_mono HO244.out (fun k_ hk => (⟨hk, hk.2⟩ : _ ∧ k_ ≠ gb256))) (fun _ hk => hk.2) (.bool t247)) (fun _ hk => hk.2) (.bool t248)) (fun _ hk => hk.2) (.int .i64 t249)) (fun _ hk => hk.2) (.int .i64 t250)) (fun _ hk => hk.2) (.int .i64 t251)) (fun _ hk => hk.2) (.slice Ao16 t252.length co16)) (fun _ h_ => h_.1))) hb); have n1_ := zzm (Kd.N_below (by (with_reducible repeat (first | apply Kd.N_alloc | apply Kd.N_drewN | apply Kd.N_drew)); exact (Kd.N_mono (Kd.N_far (p := ⟨gb256, 5, none⟩) (Kd.N_far (p := ⟨gb256, 4, none⟩) (Kd.N_far (p := ⟨gb256, 3, none⟩) (Kd.N_far (p := ⟨gb256, 2, none⟩) (Kd.N_far (p := ⟨gb256, 1, none⟩) (Kd.N_far (p := ⟨gb256, 0, none⟩) (Kd.N_mono HO254.out (fun k_ hk => (⟨hk, hk.2⟩ : _ ∧ k_ ≠ gb256))) (fun _ hk => hk.2) (.bool t247)) (fun _ hk => hk.2) (.bool t248)) (fun _ hk => hk.2) (.int .i64 t249)) (fun _ hk => hk.2) (.int .i64 t250)) (fun _ hk => hk.2) (.int .i64 t251)) (fun _ hk => hk.2) (.slice Ao16 t252.length co16)) (fun _ h_ => h_.1))) hb); have n2_ := zzm (zzh (g := gb246) (o := .cells #[.bool t237, .bool t238, .int .i64 t239, .int .i64 t240, .int .i64 t241, .slice Ao11 t242.length co11] 27 (0, 0)) (by (with_reducible repeat (first | refine zzf ?_ _ | refine zzg ?_ | refine zze ?_ _)); refine zzj ?_ NB246_256.out _; (with_reducible repeat (first | refine zzf ?_ _ | refine zzg ?_ | refine zze ?_ _)); refine zzj ?_ NB246_256.out _; (with_reducible repeat (first | refine zzf ?_ _ | refine zzg ?_ | refine zze ?_ _)); refine zzj ?_ NB246_256.out _; (with_reducible repeat (first | refine zzf ?_ _ | refine zzg ?_ | refine zze ?_ _)); refine zzj ?_ NB246_256.out _; (with_reducible repeat (first | refine zzf ?_ _ | refine zzg ?_ | refine zze ?_ _)); refine zzj ?_ NB246_256.out _; (with_reducible repeat (first | refine zzf ?_ _ | refine zzg ?_ | refine zze ?_ _)); refine zzj ?_ NB246_256.out _; (with_reducible repeat (first | refine zzf ?_ _ | refine zzg ?_ | refine zze ?_ _)); exact BK246.out) hb); have n3_ := zzm (zzh (g := gb256) (o := .cells #[.bool t247, .bool t248, .int .i64 t249, .int .i64 t250, .int .i64 t251, .slice Ao16 t252.length co16] 27 (0, 0)) (by (with_reducible repeat (first | refine zzf ?_ _ | refine zzg ?_ | refine zze ?_ _)); refine zzi (cs := #[.bool t247, .bool t248, .int .i64 t249, .int .i64 t250, .int .i64 t251, .slice none 0 0]) ?_ 5 _ rfl; (with_reducible repeat (first | refine zzf ?_ _ | refine zzg ?_ | refine zze ?_ _)); refine zzi (cs := #[.bool t247, .bool t248, .int .i64 t249, .int .i64 t250, .int .i64 0, .slice none 0 0]) ?_ 4 _ rfl; (with_reducible repeat (first | refine zzf ?_ _ | refine zzg ?_ | refine zze ?_ _)); refine zzi (cs := #[.bool t247, .bool t248, .int .i64 t249, .int .i64 0, .int .i64 0, .slice none 0 0]) ?_ 3 _ rfl; (with_reducible repeat (first | refine zzf ?_ _ | refine zzg ?_ | refine zze ?_ _)); refine zzi (cs := #[.bool t247, .bool t248, .int .i64 0, .int .i64 0, .int .i64 0, .slice none 0 0]) ?_ 2 _ rfl; (with_reducible repeat (first | refine zzf ?_ _ | refine zzg ?_ | refine zze ?_ _)); refine zzi (cs := #[.bool t247, .bool false, .int .i64 0, .int .i64 0, .int .i64 0, .slice none 0 0]) ?_ 1 _ rfl; (with_reducible repeat (first | refine zzf ?_ _ | refine zzg ?_ | refine zze ?_ _)); refine zzi (cs := #[.bool false, .bool false, .int .i64 0, .int .i64 0, .int .i64 0, .slice none 0 0]) ?_ 0 _ rfl; (with_reducible repeat (first | refine zzf ?_ _ | refine zzg ?_ | refine zze ?_ _)); exact BK256.out) hb); have n4_ := zzm (zzp (by repeat (first | (with_reducible first | exact HB.out | apply zza | apply zzb | apply zzc | refine zzd ?_ GE246.out | refine zzd ?_ GE256.out) | exact HB.out)) hb); clear HO244 HO254 BK246 BK256 HB; have HO244 := n0_; have HO254 := n1_; have BK246 := n2_; have BK256 := n3_; have HB := n4_; clear n0_ n1_ n2_ n3_ n4_; (try clear hb); (try clear hb2); (try clear hk); (try clear hi)))
     go_meet
     case rel => exact ⟨_, (true), (by first | rfl | (simp; done) | (simp [*]; done)), H', ⟨by first | omega | exact Nat.le_refl _⟩, ⟨by (with_reducible repeat (first | apply Kd.N_alloc | apply Kd.N_drewN | apply Kd.N_drew)); exact Kd.N_mono HO244.out (fun _ hk => ⟨hk.1.2, ⟨hk.1.1.2, hk.2⟩⟩)⟩, ⟨by (with_reducible repeat (first | apply Kd.N_alloc | apply Kd.N_drewN | apply Kd.N_drew)); exact Kd.N_mono HO254.out (fun _ hk => ⟨hk.1.1, ⟨hk.1.2, hk.2⟩⟩)⟩, ⟨by (with_reducible repeat (first | refine zzf ?_ _ | refine zzg ?_ | refine zze ?_ _)); exact BK246.out⟩, ⟨by (with_reducible repeat (first | refine zzf ?_ _ | refine zzg ?_ | refine zze ?_ _)); exact BK256.out⟩, ⟨by repeat (first | (with_reducible first | exact HB.out | apply zza | apply zzb | apply zzc | refine zzd ?_ GE246.out | refine zzd ?_ GE256.out) | exact HB.out)⟩⟩
  case rest =>
   clear HC6
   try clear c1
   try clear c2
   try clear c2b0
   try clear c2b1
   try clear p2
   try clear c4
   try clear c14
   try clear c17
   try clear c17b0
   try clear c17b1
   try clear c17b2
   try clear c18
   try clear c19
   try clear c20
   try clear c24
   try clear hcz10_0
   try clear hcz10_1
   try clear hcz10_2
   try clear hcz10_3
   try clear hcz10_4
   try clear hcz10_5
   try clear hcz15_0
   try clear hcz15_1
   try clear hcz15_2
   try clear hcz15_3
   try clear hcz15_4
   try clear hcz15_5
   try clear hcz21_0
   try clear hcz21_1
   try clear hcz21_2
   try clear hcz21_3
   try clear hcz21_4
   try clear hcz21_5
   try clear hcz22_0
   try clear hcz22_1
   try clear hcz22_2
   try clear hcz22_3
   try clear hcz22_4
   try clear hcz22_5
   try clear hcz25_0
   try clear hcz25_1
   try clear hcz25_2
   try clear hcz25_3
   try clear hcz25_4
   try clear hcz25_5
   try clear hcz26_0
   try clear hcz26_1
   try clear hcz26_2
   try clear hcz26_3
   try clear hcz26_4
   try clear hcz26_5
   try clear hfz10_0
   try clear hfz10_1
   try clear hfz10_2
   try clear hfz10_3
   try clear hfz10_4
   try clear hfz10_5
   try clear hfz15_0
   try clear hfz15_1
   try clear hfz15_2
   try clear hfz15_3
   try clear hfz15_4
   try clear hfz15_5
   try clear hfz21_0
   try clear hfz21_1
   try clear hfz21_2
   try clear hfz21_3
   try clear hfz21_4
   try clear hfz21_5
   try clear hfz22_0
   try clear hfz22_1
   try clear hfz22_2
   try clear hfz22_3
   try clear hfz22_4
   try clear hfz22_5
   try clear hfz25_0
   try clear hfz25_1
   try clear hfz25_2
   try clear hfz25_3
   try clear hfz25_4
   try clear hfz25_5
   try clear hfz26_0
   try clear hfz26_1
   try clear hfz26_2
   try clear hfz26_3
   try clear hfz26_4
   try clear hfz26_5
   obtain ⟨kq, x56_5, rfl, HA, HJ5, HO_247005, HO_257005, BK246, BK256, HB⟩ := hcut
   cases kq with
   | zero => exact absurd HA.out (by simp [laws_FnMarkBatchTwo.j0])
   | succ kj5 =>
    have H := HA.out
    clear HA
    simp only [laws_FnMarkBatchTwo.j0] at H
    by_cases c28 : x56_5 = true
    ·
     subst c28
     have H1 : (if (t245 == t255) = true then ((laws_sameBatch.f kj5 t237 t238 t239 t240 t241 t242 t247 t248 t249 t250 t251 t252).bind fun t258 => (some t258)) else (some false)) = some r := by rw [if_pos rfl] at H; exact H
     clear H
     have H := H1
     clear H1
     by_cases c29 : (t245 == t255) = true
     ·
      rw [if_pos c29] at H
      have c29b0 : (t245 == t255) = true := c29
      (try (have c29b1 : decide (t245 = t255) = true := by simpa using c29))
      (try (have c29b2 : (t245 == t255) = true := by simpa using c29))
      clear c29
      replace H := Option.bind_eq_some_iff.mp H
      obtain ⟨t258, A300, H⟩ := H
      replace H : (some t258) = some r := H
      have A30 := zzm A300
      clear A300
      obtain rfl := Option.some.inj H
      have hnb31 := NB246_256.out
      have hnc31 := NB256_246.out
      obtain ⟨hcz32_0, hcz32_1, hcz32_2, hcz32_3, hcz32_4, hcz32_5, hfz32_0, hfz32_1, hfz32_2, hfz32_3, hfz32_4, hfz32_5⟩ := zzc6 BK246.out
      obtain ⟨hcz33_0, hcz33_1, hcz33_2, hcz33_3, hcz33_4, hcz33_5, hfz33_0, hfz33_1, hfz33_2, hfz33_3, hfz33_4, hfz33_5⟩ := zzc6 BK256.out
      go_wp2_with (first | (go_at_call 21; (with_reducible refine (laws_sameBatch.calls kj5 t237 t238 t239 t240 t241 _ _ t242 t247 t248 t249 t250 t251 _ _ t252 t258 _ ?side1 ?side2 ?side3 ?side4 A30.out).mono ?_); (case side1 => repeat (first | exact (Kd.N_reads' HO_247005.out).2.2 | (with_reducible refine Kd.C_alloc ?_ _) | (with_reducible refine Kd.C_drewN ?_ _) | (with_reducible refine Kd.C_drew ?_))); (case side2 => exact (Kd.N_reads' HO_247005.out).2.1); (case side3 => repeat (first | exact (Kd.N_reads' HO_257005.out).2.2 | (with_reducible refine Kd.C_alloc ?_ _) | (with_reducible refine Kd.C_drewN ?_ _) | (with_reducible refine Kd.C_drew ?_))); (case side4 => exact (Kd.N_reads' HO_257005.out).2.1); rintro e w34 ⟨rfl, hb⟩; have n0_ := zzm (Kd.N_below (by (with_reducible repeat (first | apply Kd.N_alloc | apply Kd.N_drewN | apply Kd.N_drew)); exact HO_247005.out) hb); have n1_ := zzm (Kd.N_below (by (with_reducible repeat (first | apply Kd.N_alloc | apply Kd.N_drewN | apply Kd.N_drew)); exact HO_257005.out) hb); have n2_ := zzm (zzh (g := gb246) (o := .cells #[.bool t237, .bool t238, .int .i64 t239, .int .i64 t240, .int .i64 t241, .slice Ao11 t242.length co11] 27 (0, 0)) (by (with_reducible repeat (first | refine zzf ?_ _ | refine zzg ?_ | refine zze ?_ _)); exact BK246.out) hb); have n3_ := zzm (zzh (g := gb256) (o := .cells #[.bool t247, .bool t248, .int .i64 t249, .int .i64 t250, .int .i64 t251, .slice Ao16 t252.length co16] 27 (0, 0)) (by (with_reducible repeat (first | refine zzf ?_ _ | refine zzg ?_ | refine zze ?_ _)); exact BK256.out) hb); have n4_ := zzm (zzp (by repeat (first | (with_reducible first | exact HB.out | apply zza | apply zzb | apply zzc | refine zzd ?_ GE246.out | refine zzd ?_ GE256.out) | exact HB.out)) hb); clear HO_247005 HO_257005 BK246 BK256 HB; have HO_247005 := n0_; have HO_257005 := n1_; have BK246 := n2_; have BK256 := n3_; have HB := n4_; clear n0_ n1_ n2_ n3_ n4_; (try clear hb); (try clear hb2); (try clear hk); (try clear hi)))
      go_ret
      exact ⟨by first | rfl | (simp [errW_none, errW_some] <;> rfl) | (simp [*, errW_none, errW_some] <;> rfl), by repeat (first | (with_reducible first | exact HB.out | apply zza | apply zzb | apply zzc | refine zzd ?_ GE246.out | refine zzd ?_ GE256.out) | exact HB.out)⟩
     ·
      rw [if_neg c29] at H
      have c29b0 : (t245 == t255) = false := by simpa using c29
      (try (have c29b1 : decide (t245 = t255) = false := by simpa using c29))
      (try (have c29b2 : (t245 == t255) = false := by simpa using c29))
      (try (have c29b3 : ¬ (t245 = t255) := by simpa using c29))
      clear c29
      obtain rfl := Option.some.inj H
      go_wp2
      go_ret
      exact ⟨by first | rfl | (simp [errW_none, errW_some] <;> rfl) | (simp [*, errW_none, errW_some] <;> rfl), by repeat (first | (with_reducible first | exact HB.out | apply zza | apply zzb | apply zzc | refine zzd ?_ GE246.out | refine zzd ?_ GE256.out) | exact HB.out)⟩
    ·
     replace c28 := Bool.eq_false_iff.mpr c28
     subst c28
     have H1 : ((impl_MarkBatch.f kj5 t232 t233 t234 t235 (!t236)).bind fun bt259 => (if 0 < (bt259.2.2.2.2.2.1.length : Int) then (if 0 < (t242.length : Int) then (if bt259.2.2.2.2.2.2 = true then ((laws_sameBatch.f kj5 bt259.1 bt259.2.1 bt259.2.2.1 bt259.2.2.2.1 bt259.2.2.2.2.1 bt259.2.2.2.2.2.1 t237 t238 t239 t240 t241 t242).bind fun t272 => (if t272 = true then (some false) else ((laws_sameRecord.f kj5 ((rd_T34 bt259.2.2.2.2.2.1 0).f0) ((rd_T34 bt259.2.2.2.2.2.1 0).f1) ((rd_T34 bt259.2.2.2.2.2.1 0).f2) ((rd_T34 bt259.2.2.2.2.2.1 0).f3) ((rd_T34 bt259.2.2.2.2.2.1 0).f4) ((rd_T34 t242 0).f5) ((rd_T34 t242 0).f0) ((rd_T34 t242 0).f1) ((rd_T34 t242 0).f2) ((rd_T34 t242 0).f3) ((rd_T34 t242 0).f4) ((rd_T34 t242 0).f5)).bind fun t274 => (some t274)))) else (some false)) else (none)) else (none))) = some r := by rw [if_neg (show ¬ (false = true) by decide)] at H; exact H
     clear H
     have H := H1
     clear H1
     replace H := Option.bind_eq_some_iff.mp H
     obtain ⟨⟨t259, t260, t261, t262, t263, t264, t267⟩, A350, H⟩ := H
     replace H : (if 0 < (t264.length : Int) then (if 0 < (t242.length : Int) then (if t267 = true then ((laws_sameBatch.f kj5 t259 t260 t261 t262 t263 t264 t237 t238 t239 t240 t241 t242).bind fun t272 => (if t272 = true then (some false) else ((laws_sameRecord.f kj5 ((rd_T34 t264 0).f0) ((rd_T34 t264 0).f1) ((rd_T34 t264 0).f2) ((rd_T34 t264 0).f3) ((rd_T34 t264 0).f4) ((rd_T34 t242 0).f5) ((rd_T34 t242 0).f0) ((rd_T34 t242 0).f1) ((rd_T34 t242 0).f2) ((rd_T34 t242 0).f3) ((rd_T34 t242 0).f4) ((rd_T34 t242 0).f5)).bind fun t274 => (some t274)))) else (some false)) else (none)) else (none)) = some r := H
     have A35 := zzm A350
     clear A350
     by_cases c36 : 0 < (t264.length : Int)
     ·
      rw [if_pos c36] at H
      have c36b0 : decide (0 < (t264.length : Int)) = true := decide_eq_true c36
      have c36b1 : decide (0 < t264.length) = true := decide_eq_true (by omega)
      clear c36
      by_cases c37 : 0 < (t242.length : Int)
      ·
       rw [if_pos c37] at H
       have c37b0 : decide (0 < (t242.length : Int)) = true := decide_eq_true c37
       have c37b1 : decide (0 < t242.length) = true := decide_eq_true (by omega)
       clear c37
       by_cases c38 : t267 = true
       ·
        subst c38
        have H1 : ((laws_sameBatch.f kj5 t259 t260 t261 t262 t263 t264 t237 t238 t239 t240 t241 t242).bind fun t272 => (if t272 = true then (some false) else ((laws_sameRecord.f kj5 ((rd_T34 t264 0).f0) ((rd_T34 t264 0).f1) ((rd_T34 t264 0).f2) ((rd_T34 t264 0).f3) ((rd_T34 t264 0).f4) ((rd_T34 t242 0).f5) ((rd_T34 t242 0).f0) ((rd_T34 t242 0).f1) ((rd_T34 t242 0).f2) ((rd_T34 t242 0).f3) ((rd_T34 t242 0).f4) ((rd_T34 t242 0).f5)).bind fun t274 => (some t274)))) = some r := by rw [if_pos rfl] at H; exact H
        clear H
        have H := H1
        clear H1
        replace H := Option.bind_eq_some_iff.mp H
        obtain ⟨t272, A390, H⟩ := H
        replace H : (if t272 = true then (some false) else ((laws_sameRecord.f kj5 ((rd_T34 t264 0).f0) ((rd_T34 t264 0).f1) ((rd_T34 t264 0).f2) ((rd_T34 t264 0).f3) ((rd_T34 t264 0).f4) ((rd_T34 t242 0).f5) ((rd_T34 t242 0).f0) ((rd_T34 t242 0).f1) ((rd_T34 t242 0).f2) ((rd_T34 t242 0).f3) ((rd_T34 t242 0).f4) ((rd_T34 t242 0).f5)).bind fun t274 => (some t274))) = some r := H
        have A39 := zzm A390
        clear A390
        by_cases c40 : t272 = true
        ·
         subst c40
         have H1 : (some false) = some r := by rw [if_pos rfl] at H; exact H
         clear H
         have H := H1
         clear H1
         obtain rfl := Option.some.inj H
         try go_wp2_with (first | ((with_reducible refine gate_callee (f := 19) rfl ?_); refine goesL_ (some 72) rfl rfl Try.func19 (by kernel_rfl) rfl #[.int .i64 t232, .int .i64 t233, .int .i64 t234, .int .i64 t235, .bool (!t236)] rfl (by (try simp only [List.map_toArray, List.map_cons, List.map_nil]); first | done | rfl | (simp only [List.length_drop, List.length_take]; rfl)) ?_; (with_reducible refine (impl_MarkBatch.calls kj5 t232 t233 t234 t235 (!t236) t259 t260 t261 t262 t263 t264 true _ A35.out).mono ?_); rintro e w41 ⟨v265, rfl, ho0, hb⟩; refine ⟨_, rfl, ?_⟩; have n0_ := zzm (Kd.N_elder' (by (with_reducible repeat (first | apply Kd.N_alloc | apply Kd.N_drewN | apply Kd.N_drew)); exact HO_247005.out) (Kd.N_base ho0) hb); have n1_ := zzm (Kd.N_elder' (by (with_reducible repeat (first | apply Kd.N_alloc | apply Kd.N_drewN | apply Kd.N_drew)); exact HO_257005.out) (Kd.N_base ho0) hb); have n2_ := zzm (Kd.N_lower (Kd.N_mono (ok' := fun k_ => some k_ ≠ (.slice Ao11 t242.length co11 : Value).ownBlock ∧ some k_ ≠ (.slice Ao16 t252.length co16 : Value).ownBlock ∧ k_ ≠ gb246 ∧ k_ ≠ gb256) ho0 (fun k_ hk_ => ⟨(Kd.fresh' (Kd.N_lt (by (with_reducible repeat (first | apply Kd.N_alloc | apply Kd.N_drewN | apply Kd.N_drew)); exact HO_247005.out)) k_ hk_), (Kd.fresh' (Kd.N_lt (by (with_reducible repeat (first | apply Kd.N_alloc | apply Kd.N_drewN | apply Kd.N_drew)); exact HO_257005.out)) k_ hk_), (Kd.freshB (g := gb246) (o := .cells #[.bool t237, .bool t238, .int .i64 t239, .int .i64 t240, .int .i64 t241, .slice Ao11 t242.length co11] 27 (0, 0)) (by (with_reducible repeat (first | refine zzf ?_ _ | refine zzg ?_ | refine zze ?_ _)); exact BK246.out) k_ hk_), (Kd.freshB (g := gb256) (o := .cells #[.bool t247, .bool t248, .int .i64 t249, .int .i64 t250, .int .i64 t251, .slice Ao16 t252.length co16] 27 (0, 0)) (by (with_reducible repeat (first | refine zzf ?_ _ | refine zzg ?_ | refine zze ?_ _)); exact BK256.out) k_ hk_)⟩)) (zzo (by repeat (first | (with_reducible first | exact HB.out | apply zza | apply zzb | apply zzc | refine zzd ?_ GE246.out | refine zzd ?_ GE256.out) | exact HB.out)))); have n3_ := zzm (zzh (g := gb246) (o := .cells #[.bool t237, .bool t238, .int .i64 t239, .int .i64 t240, .int .i64 t241, .slice Ao11 t242.length co11] 27 (0, 0)) (by (with_reducible repeat (first | refine zzf ?_ _ | refine zzg ?_ | refine zze ?_ _)); exact BK246.out) hb); have n4_ := zzm (zzh (g := gb256) (o := .cells #[.bool t247, .bool t248, .int .i64 t249, .int .i64 t250, .int .i64 t251, .slice Ao16 t252.length co16] 27 (0, 0)) (by (with_reducible repeat (first | refine zzf ?_ _ | refine zzg ?_ | refine zze ?_ _)); exact BK256.out) hb); have n5_ := zzm (zzp (by repeat (first | (with_reducible first | exact HB.out | apply zza | apply zzb | apply zzc | refine zzd ?_ GE246.out | refine zzd ?_ GE256.out) | exact HB.out)) hb); clear HO_247005 HO_257005 BK246 BK256 HB; have HO_247005 := n0_; have HO_257005 := n1_; have HO266 := n2_; have BK246 := n3_; have BK256 := n4_; have HB := n5_; clear n0_ n1_ n2_ n3_ n4_ n5_; (try clear hb); (try clear hb2); (try clear hk); (try clear hi); (try clear ho0)) | ((with_reducible refine gate_dst (N := 12) rfl ?_); refine box_event ?hg (N := 12) ?hd (cs := #[.bool false, .bool false, .int .i64 0, .int .i64 0, .int .i64 0, .slice none 0 0]) (t := 27) ?hr ?_; (case hd => rfl); (case hg => rfl); (case hr => first | (go_simp; done) | (go_simp; rfl)); intro gb268 hg w42 hbox hb; have n0_ := zzm (Kd.N_below (Kd.N_elderB (by (with_reducible repeat (first | apply Kd.N_alloc | apply Kd.N_drewN | apply Kd.N_drew)); exact HO_247005.out) gb268 (Nat.le_of_eq hg.symm)) hb); have n1_ := zzm (Kd.N_below (Kd.N_elderB (by (with_reducible repeat (first | apply Kd.N_alloc | apply Kd.N_drewN | apply Kd.N_drew)); exact HO_257005.out) gb268 (Nat.le_of_eq hg.symm)) hb); have n2_ := zzm (Kd.N_below (Kd.N_elderB (by (with_reducible repeat (first | apply Kd.N_alloc | apply Kd.N_drewN | apply Kd.N_drew)); exact HO266.out) gb268 (Nat.le_of_eq hg.symm)) hb); have n3_ := zzm (zzh (g := gb246) (o := .cells #[.bool t237, .bool t238, .int .i64 t239, .int .i64 t240, .int .i64 t241, .slice Ao11 t242.length co11] 27 (0, 0)) (by (with_reducible repeat (first | refine zzf ?_ _ | refine zzg ?_ | refine zze ?_ _)); exact BK246.out) hb); have n4_ := zzm (zzh (g := gb256) (o := .cells #[.bool t247, .bool t248, .int .i64 t249, .int .i64 t250, .int .i64 t251, .slice Ao16 t252.length co16] 27 (0, 0)) (by (with_reducible repeat (first | refine zzf ?_ _ | refine zzg ?_ | refine zze ?_ _)); exact BK256.out) hb); have n5_ := zzm (zzp (by repeat (first | (with_reducible first | exact HB.out | apply zza | apply zzb | apply zzc | refine zzd ?_ GE246.out | refine zzd ?_ GE256.out) | exact HB.out)) hb); have n6_ := zzm (hbox); have n7_ := zzm ((by rw [hg]; exact (zzo (by repeat (first | (with_reducible first | exact HB.out | apply zza | apply zzb | apply zzc | refine zzd ?_ GE246.out | refine zzd ?_ GE256.out) | exact HB.out))) : w.heap.size ≤ gb268)); have n8_ := zzm ((by rw [hg]; exact (zzo (by repeat (first | (with_reducible first | exact HB.out | apply zza | apply zzb | apply zzc | refine zzd ?_ GE246.out | refine zzd ?_ GE256.out) | exact HB.out))) : w.heap.size ≤ gb268)); have n9_ := zzm ((by rw [hg]; exact Nat.ne_of_lt (blk_lt (g := gb246) (o := .cells #[.bool t237, .bool t238, .int .i64 t239, .int .i64 t240, .int .i64 t241, .slice Ao11 t242.length co11] 27 (0, 0)) (by (with_reducible repeat (first | refine zzf ?_ _ | refine zzg ?_ | refine zze ?_ _)); exact BK246.out)) : gb246 ≠ gb268)); have n10_ := zzm ((by rw [hg]; exact Nat.ne_of_gt (blk_lt (g := gb246) (o := .cells #[.bool t237, .bool t238, .int .i64 t239, .int .i64 t240, .int .i64 t241, .slice Ao11 t242.length co11] 27 (0, 0)) (by (with_reducible repeat (first | refine zzf ?_ _ | refine zzg ?_ | refine zze ?_ _)); exact BK246.out)) : gb268 ≠ gb246)); have n11_ := zzm ((by rw [hg]; exact Nat.ne_of_lt (blk_lt (g := gb256) (o := .cells #[.bool t247, .bool t248, .int .i64 t249, .int .i64 t250, .int .i64 t251, .slice Ao16 t252.length co16] 27 (0, 0)) (by (with_reducible repeat (first | refine zzf ?_ _ | refine zzg ?_ | refine zze ?_ _)); exact BK256.out)) : gb256 ≠ gb268)); have n12_ := zzm ((by rw [hg]; exact Nat.ne_of_gt (blk_lt (g := gb256) (o := .cells #[.bool t247, .bool t248, .int .i64 t249, .int .i64 t250, .int .i64 t251, .slice Ao16 t252.length co16] 27 (0, 0)) (by (with_reducible repeat (first | refine zzf ?_ _ | refine zzg ?_ | refine zze ?_ _)); exact BK256.out)) : gb268 ≠ gb256)); clear HO_247005 HO_257005 HO266 BK246 BK256 HB; have HO_247005 := n0_; have HO_257005 := n1_; have HO266 := n2_; have BK246 := n3_; have BK256 := n4_; have HB := n5_; have BK268 := n6_; have GW268 := n7_; have GE268 := n8_; have NB246_268 := n9_; have NB268_246 := n10_; have NB256_268 := n11_; have NB268_256 := n12_; clear n0_ n1_ n2_ n3_ n4_ n5_ n6_ n7_ n8_ n9_ n10_ n11_ n12_ hb hbox hg; have hnb43 := NB268_246.out; have hnc43 := NB246_268.out; have hnb44 := NB268_256.out; have hnc44 := NB256_268.out; obtain ⟨hcz45_0, hcz45_1, hcz45_2, hcz45_3, hcz45_4, hcz45_5, hfz45_0, hfz45_1, hfz45_2, hfz45_3, hfz45_4, hfz45_5⟩ := zzc6 BK268.out; obtain ⟨Ao46, co46, eo46⟩ := Kd.N_slice HO266.out; subst eo46) | ((with_reducible refine gate_store (t := 27) (p := 12) rfl ?_); refine store_event (t := 27) (p := 12) (v := ?vo_w47) (w1 := ((((((w42.setCell ⟨gb268, 0, none⟩ (.bool t259)).setCell ⟨gb268, 1, none⟩ (.bool t260)).setCell ⟨gb268, 2, none⟩ (.int .i64 t261)).setCell ⟨gb268, 3, none⟩ (.int .i64 t262)).setCell ⟨gb268, 4, none⟩ (.int .i64 t263)).setCell ⟨gb268, 5, none⟩ (.slice Ao46 t264.length co46))) ?hg ?ho ?hn ?hr ?_; (case ho => rfl); (case hg => rfl); (case hn => rfl); (case hr => first | (go_simp; done) | (go_simp; rfl)); intro w47 hw; have n0_ : Aside0 (Kd.N k34 34 w47 w.heap.size (fun k_ => some k_ ≠ (.slice Ao16 t252.length co16 : Value).ownBlock ∧ some k_ ≠ (.slice Ao46 t264.length co46 : Value).ownBlock ∧ k_ ≠ gb246 ∧ k_ ≠ gb256 ∧ k_ ≠ gb268) (.slice Ao11 t242.length co11) t242) := ⟨(by rw [hw]; exact (by (with_reducible repeat (first | apply Kd.N_alloc | apply Kd.N_drewN | apply Kd.N_drew)); exact Kd.N_mono (Kd.N_far (p := ⟨gb268, 5, none⟩) (Kd.N_far (p := ⟨gb268, 4, none⟩) (Kd.N_far (p := ⟨gb268, 3, none⟩) (Kd.N_far (p := ⟨gb268, 2, none⟩) (Kd.N_far (p := ⟨gb268, 1, none⟩) (Kd.N_far (p := ⟨gb268, 0, none⟩) (Kd.N_mono HO_247005.out (fun k_ hk => (⟨hk, hk.2⟩ : _ ∧ k_ ≠ gb268))) (fun _ hk => hk.2) (.bool t259)) (fun _ hk => hk.2) (.bool t260)) (fun _ hk => hk.2) (.int .i64 t261)) (fun _ hk => hk.2) (.int .i64 t262)) (fun _ hk => hk.2) (.int .i64 t263)) (fun _ hk => hk.2) (.slice Ao46 t264.length co46)) (fun _ hk => ⟨hk.1.1.1.1, ⟨hk.1.1.2, ⟨hk.1.1.1.2.1, ⟨hk.1.1.1.2.2, hk.1.2⟩⟩⟩⟩)))⟩; have n1_ : Aside0 (Kd.N k34 34 w47 w.heap.size (fun k_ => some k_ ≠ (.slice Ao11 t242.length co11 : Value).ownBlock ∧ some k_ ≠ (.slice Ao46 t264.length co46 : Value).ownBlock ∧ k_ ≠ gb246 ∧ k_ ≠ gb256 ∧ k_ ≠ gb268) (.slice Ao16 t252.length co16) t252) := ⟨(by rw [hw]; exact (by (with_reducible repeat (first | apply Kd.N_alloc | apply Kd.N_drewN | apply Kd.N_drew)); exact Kd.N_mono (Kd.N_far (p := ⟨gb268, 5, none⟩) (Kd.N_far (p := ⟨gb268, 4, none⟩) (Kd.N_far (p := ⟨gb268, 3, none⟩) (Kd.N_far (p := ⟨gb268, 2, none⟩) (Kd.N_far (p := ⟨gb268, 1, none⟩) (Kd.N_far (p := ⟨gb268, 0, none⟩) (Kd.N_mono HO_257005.out (fun k_ hk => (⟨hk, hk.2⟩ : _ ∧ k_ ≠ gb268))) (fun _ hk => hk.2) (.bool t259)) (fun _ hk => hk.2) (.bool t260)) (fun _ hk => hk.2) (.int .i64 t261)) (fun _ hk => hk.2) (.int .i64 t262)) (fun _ hk => hk.2) (.int .i64 t263)) (fun _ hk => hk.2) (.slice Ao46 t264.length co46)) (fun _ hk => ⟨hk.1.1.1.1, ⟨hk.1.1.2, ⟨hk.1.1.1.2.1, ⟨hk.1.1.1.2.2, hk.1.2⟩⟩⟩⟩)))⟩; have n2_ : Aside0 (Kd.N k34 34 w47 w.heap.size (fun k_ => some k_ ≠ (.slice Ao11 t242.length co11 : Value).ownBlock ∧ some k_ ≠ (.slice Ao16 t252.length co16 : Value).ownBlock ∧ k_ ≠ gb246 ∧ k_ ≠ gb256 ∧ k_ ≠ gb268) (.slice Ao46 t264.length co46) t264) := ⟨(by rw [hw]; exact (by (with_reducible repeat (first | apply Kd.N_alloc | apply Kd.N_drewN | apply Kd.N_drew)); exact Kd.N_mono (Kd.N_far (p := ⟨gb268, 5, none⟩) (Kd.N_far (p := ⟨gb268, 4, none⟩) (Kd.N_far (p := ⟨gb268, 3, none⟩) (Kd.N_far (p := ⟨gb268, 2, none⟩) (Kd.N_far (p := ⟨gb268, 1, none⟩) (Kd.N_far (p := ⟨gb268, 0, none⟩) (Kd.N_mono HO266.out (fun k_ hk => (⟨hk, hk.2⟩ : _ ∧ k_ ≠ gb268))) (fun _ hk => hk.2) (.bool t259)) (fun _ hk => hk.2) (.bool t260)) (fun _ hk => hk.2) (.int .i64 t261)) (fun _ hk => hk.2) (.int .i64 t262)) (fun _ hk => hk.2) (.int .i64 t263)) (fun _ hk => hk.2) (.slice Ao46 t264.length co46)) (fun _ hk => ⟨hk.1.1.1, ⟨hk.1.1.2.1, ⟨hk.1.1.2.2.1, ⟨hk.1.1.2.2.2, hk.1.2⟩⟩⟩⟩)))⟩; have n3_ : Aside0 (w47.heap[gb246]? = some (.cells #[.bool t237, .bool t238, .int .i64 t239, .int .i64 t240, .int .i64 t241, .slice Ao11 t242.length co11] 27 (0, 0))) := ⟨(by rw [hw]; exact (by (with_reducible repeat (first | refine zzf ?_ _ | refine zzg ?_ | refine zze ?_ _)); refine zzj ?_ NB246_268.out _; (with_reducible repeat (first | refine zzf ?_ _ | refine zzg ?_ | refine zze ?_ _)); refine zzj ?_ NB246_268.out _; (with_reducible repeat (first | refine zzf ?_ _ | refine zzg ?_ | refine zze ?_ _)); refine zzj ?_ NB246_268.out _; (with_reducible repeat (first | refine zzf ?_ _ | refine zzg ?_ | refine zze ?_ _)); refine zzj ?_ NB246_268.out _; (with_reducible repeat (first | refine zzf ?_ _ | refine zzg ?_ | refine zze ?_ _)); refine zzj ?_ NB246_268.out _; (with_reducible repeat (first | refine zzf ?_ _ | refine zzg ?_ | refine zze ?_ _)); refine zzj ?_ NB246_268.out _; (with_reducible repeat (first | refine zzf ?_ _ | refine zzg ?_ | refine zze ?_ _)); exact BK246.out))⟩; have n4_ : Aside0 (w47.heap[gb256]? = some (.cells #[.bool t247, .bool t248, .int .i64 t249, .int .i64 t250, .int .i64 t251, .slice Ao16 t252.length co16] 27 (0, 0))) := ⟨(by rw [hw]; exact (by (with_reducible repeat (first | refine zzf ?_ _ | refine zzg ?_ | refine zze ?_ _)); refine zzj ?_ NB256_268.out _; (with_reducible repeat (first | refine zzf ?_ _ | refine zzg ?_ | refine zze ?_ _)); refine zzj ?_ NB256_268.out _; (with_reducible repeat (first | refine zzf ?_ _ | refine zzg ?_ | refine zze ?_ _)); refine zzj ?_ NB256_268.out _; (with_reducible repeat (first | refine zzf ?_ _ | refine zzg ?_ | refine zze ?_ _)); refine zzj ?_ NB256_268.out _; (with_reducible repeat (first | refine zzf ?_ _ | refine zzg ?_ | refine zze ?_ _)); refine zzj ?_ NB256_268.out _; (with_reducible repeat (first | refine zzf ?_ _ | refine zzg ?_ | refine zze ?_ _)); refine zzj ?_ NB256_268.out _; (with_reducible repeat (first | refine zzf ?_ _ | refine zzg ?_ | refine zze ?_ _)); exact BK256.out))⟩; have n5_ : Aside0 (w47.heap[gb268]? = some (.cells #[.bool t259, .bool t260, .int .i64 t261, .int .i64 t262, .int .i64 t263, .slice Ao46 t264.length co46] 27 (0, 0))) := ⟨(by rw [hw]; exact (by (with_reducible repeat (first | refine zzf ?_ _ | refine zzg ?_ | refine zze ?_ _)); refine zzi (cs := #[.bool t259, .bool t260, .int .i64 t261, .int .i64 t262, .int .i64 t263, .slice none 0 0]) ?_ 5 _ rfl; (with_reducible repeat (first | refine zzf ?_ _ | refine zzg ?_ | refine zze ?_ _)); refine zzi (cs := #[.bool t259, .bool t260, .int .i64 t261, .int .i64 t262, .int .i64 0, .slice none 0 0]) ?_ 4 _ rfl; (with_reducible repeat (first | refine zzf ?_ _ | refine zzg ?_ | refine zze ?_ _)); refine zzi (cs := #[.bool t259, .bool t260, .int .i64 t261, .int .i64 0, .int .i64 0, .slice none 0 0]) ?_ 3 _ rfl; (with_reducible repeat (first | refine zzf ?_ _ | refine zzg ?_ | refine zze ?_ _)); refine zzi (cs := #[.bool t259, .bool t260, .int .i64 0, .int .i64 0, .int .i64 0, .slice none 0 0]) ?_ 2 _ rfl; (with_reducible repeat (first | refine zzf ?_ _ | refine zzg ?_ | refine zze ?_ _)); refine zzi (cs := #[.bool t259, .bool false, .int .i64 0, .int .i64 0, .int .i64 0, .slice none 0 0]) ?_ 1 _ rfl; (with_reducible repeat (first | refine zzf ?_ _ | refine zzg ?_ | refine zze ?_ _)); refine zzi (cs := #[.bool false, .bool false, .int .i64 0, .int .i64 0, .int .i64 0, .slice none 0 0]) ?_ 0 _ rfl; (with_reducible repeat (first | refine zzf ?_ _ | refine zzg ?_ | refine zze ?_ _)); exact BK268.out))⟩; have n6_ : Aside0 (Below w.heap.size w w47) := ⟨(by rw [hw]; exact (by repeat (first | (with_reducible first | exact HB.out | apply zza | apply zzb | apply zzc | refine zzd ?_ GE246.out | refine zzd ?_ GE256.out | refine zzd ?_ GE268.out) | exact HB.out)))⟩; clear hw HO_247005 HO_257005 HO266 BK246 BK256 BK268 HB; have HO_247005 := n0_; have HO_257005 := n1_; have HO266 := n2_; have BK246 := n3_; have BK256 := n4_; have BK268 := n5_; have HB := n6_; clear n0_ n1_ n2_ n3_ n4_ n5_ n6_; obtain ⟨hcz48_0, hcz48_1, hcz48_2, hcz48_3, hcz48_4, hcz48_5, hfz48_0, hfz48_1, hfz48_2, hfz48_3, hfz48_4, hfz48_5⟩ := zzc6 BK268.out; have p269 : 0 ≤ (0 : Int) := (by omega); have q269 : 0 < (t264.length : Int) := of_decide_eq_true (by first | (with_reducible assumption) | assumption); obtain ⟨ad269, A269_3, c269_3, A269_5, c269_5, e269, hx269_0, hx269_1, hx269_2, hx269_3, hx269_4, hx269_5, hl269_3, hi269_3, hl269_5, hi269_5⟩ := at_T34 (Kd.N_reads' HO266.out).2.2 0 p269 q269; cases e269; obtain ⟨ce269, hce269, hMe269, hcc269⟩ := Kd.N_get HO266.out z34 0 p269 (by first | exact q269 | exact of_decide_eq_true (by first | (with_reducible assumption) | assumption) | (have e_ := (Kd.N_reads' HO266.out).1; omega)); obtain ⟨ua269_3, uc269_3, ua269_5, uc269_5, rfl, ul269_3, ge269_3, ul269_5, ge269_5⟩ := k34_openF hMe269; have hv269_3 := hcc269 3 _ rfl; rw [add_field _ _ 3 (by omega)] at hv269_3; replace hv269_3 := Option.some.inj (hv269_3.symm.trans hx269_3); injection hv269_3 with hva_ hvn_ hvc_; rw [hva_] at ge269_3; rw [hvc_] at ul269_3; have HL269_3 := zzm (show Kd.V (Kd.int .i64) 3 _ w.heap.size _ _ ((rd_T34 t264 0).f3) from Kd.V_mk ul269_3 ge269_3); clear hva_ hvn_ hvc_ ge269_3 ul269_3; have hv269_5 := hcc269 5 _ rfl; rw [add_field _ _ 5 (by omega)] at hv269_5; replace hv269_5 := Option.some.inj (hv269_5.symm.trans hx269_5); injection hv269_5 with hva_ hvn_ hvc_; rw [hva_] at ge269_5; rw [hvc_] at ul269_5; have HL269_5 := zzm (show Kd.V (Kd.int .i64) 3 _ w.heap.size _ _ ((rd_T34 t264 0).f5) from Kd.V_mk ul269_5 ge269_5); clear hva_ hvn_ hvc_ ge269_5 ul269_5 hcc269 hce269; have qi269 : (0 < t264.length) = True := eq_true (by omega); (try rw [show ((0 : Int)).toNat = 0 from rfl] at hx269_0); (try rw [show 0 * 6 = 0 from rfl] at hx269_0); (try rw [Addr.add_zero'] at hx269_0); (try rw [show ((0 : Int)).toNat = 0 from rfl] at hx269_1); (try rw [show 0 * 6 = 0 from rfl] at hx269_1); (try rw [Addr.add_zero'] at hx269_1); (try rw [show ((0 : Int)).toNat = 0 from rfl] at hx269_2); (try rw [show 0 * 6 = 0 from rfl] at hx269_2); (try rw [Addr.add_zero'] at hx269_2); (try rw [show ((0 : Int)).toNat = 0 from rfl] at hx269_3); (try rw [show 0 * 6 = 0 from rfl] at hx269_3); (try rw [Addr.add_zero'] at hx269_3); (try rw [show ((0 : Int)).toNat = 0 from rfl] at hx269_4); (try rw [show 0 * 6 = 0 from rfl] at hx269_4); (try rw [Addr.add_zero'] at hx269_4); (try rw [show ((0 : Int)).toNat = 0 from rfl] at hx269_5); (try rw [show 0 * 6 = 0 from rfl] at hx269_5); (try rw [Addr.add_zero'] at hx269_5); have HR269_3 := zzm hi269_3; have HC269_3 := zzm hl269_3; clear hi269_3 hl269_3; have HR269_5 := zzm hi269_5; have HC269_5 := zzm hl269_5; clear hi269_5 hl269_5; replace p269 := eq_true p269; replace q269 := eq_true q269) | ((with_reducible refine gate_dst (N := 14) rfl ?_); refine box_event ?hg (N := 14) ?hd (cs := #[.int .i64 0, .int .i64 0, .bool false, .slice none 0 0, .bool false, .slice none 0 0]) (t := 34) ?hr ?_; (case hd => rfl); (case hg => rfl); (case hr => first | (go_simp; done) | (go_simp; rfl)); intro gb270 hg w49 hbox hb; have n0_ := zzm (Kd.N_below (Kd.N_elderB (by (with_reducible repeat (first | apply Kd.N_alloc | apply Kd.N_drewN | apply Kd.N_drew)); exact HO_247005.out) gb270 (Nat.le_of_eq hg.symm)) hb); have n1_ := zzm (Kd.N_below (Kd.N_elderB (by (with_reducible repeat (first | apply Kd.N_alloc | apply Kd.N_drewN | apply Kd.N_drew)); exact HO_257005.out) gb270 (Nat.le_of_eq hg.symm)) hb); have n2_ := zzm (Kd.N_below (Kd.N_elderB (by (with_reducible repeat (first | apply Kd.N_alloc | apply Kd.N_drewN | apply Kd.N_drew)); exact HO266.out) gb270 (Nat.le_of_eq hg.symm)) hb); have n3_ := zzm (Kd.V_below (Kd.V_elderB (by (with_reducible repeat (first | apply Kd.V_alloc | apply Kd.V_drewN | apply Kd.V_drew)); exact HL269_3.out) gb270 (Nat.le_of_eq hg.symm)) hb); have n4_ := zzm (Kd.V_below (Kd.V_elderB (by (with_reducible repeat (first | apply Kd.V_alloc | apply Kd.V_drewN | apply Kd.V_drew)); exact HL269_5.out) gb270 (Nat.le_of_eq hg.symm)) hb); have n5_ := zzm (zzh (g := gb246) (o := .cells #[.bool t237, .bool t238, .int .i64 t239, .int .i64 t240, .int .i64 t241, .slice Ao11 t242.length co11] 27 (0, 0)) (by (with_reducible repeat (first | refine zzf ?_ _ | refine zzg ?_ | refine zze ?_ _)); exact BK246.out) hb); have n6_ := zzm (zzh (g := gb256) (o := .cells #[.bool t247, .bool t248, .int .i64 t249, .int .i64 t250, .int .i64 t251, .slice Ao16 t252.length co16] 27 (0, 0)) (by (with_reducible repeat (first | refine zzf ?_ _ | refine zzg ?_ | refine zze ?_ _)); exact BK256.out) hb); have n7_ := zzm (zzh (g := gb268) (o := .cells #[.bool t259, .bool t260, .int .i64 t261, .int .i64 t262, .int .i64 t263, .slice (some ad269) t264.length co46] 27 (0, 0)) (by (with_reducible repeat (first | refine zzf ?_ _ | refine zzg ?_ | refine zze ?_ _)); exact BK268.out) hb); have n8_ := zzm (Kd.C_below (by repeat (first | (with_reducible exact HR269_3.out) | (with_reducible refine Kd.C_alloc ?_ _) | (with_reducible refine Kd.C_drewN ?_ _) | (with_reducible refine Kd.C_drew ?_) | exact HR269_3.out)) hb); have n9_ := zzm (Kd.C_below (by repeat (first | (with_reducible exact HR269_5.out) | (with_reducible refine Kd.C_alloc ?_ _) | (with_reducible refine Kd.C_drewN ?_ _) | (with_reducible refine Kd.C_drew ?_) | exact HR269_5.out)) hb); have n10_ := zzm (zzp (by repeat (first | (with_reducible first | exact HB.out | apply zza | apply zzb | apply zzc | refine zzd ?_ GE246.out | refine zzd ?_ GE256.out | refine zzd ?_ GE268.out) | exact HB.out)) hb); have n11_ := zzm (hbox); have n12_ := zzm ((by rw [hg]; exact (zzo (by repeat (first | (with_reducible first | exact HB.out | apply zza | apply zzb | apply zzc | refine zzd ?_ GE246.out | refine zzd ?_ GE256.out | refine zzd ?_ GE268.out) | exact HB.out))) : w.heap.size ≤ gb270)); have n13_ := zzm ((by rw [hg]; exact (zzo (by repeat (first | (with_reducible first | exact HB.out | apply zza | apply zzb | apply zzc | refine zzd ?_ GE246.out | refine zzd ?_ GE256.out | refine zzd ?_ GE268.out) | exact HB.out))) : w.heap.size ≤ gb270)); have n14_ := zzm ((by rw [hg]; exact Nat.ne_of_lt (blk_lt (g := gb246) (o := .cells #[.bool t237, .bool t238, .int .i64 t239, .int .i64 t240, .int .i64 t241, .slice Ao11 t242.length co11] 27 (0, 0)) (by (with_reducible repeat (first | refine zzf ?_ _ | refine zzg ?_ | refine zze ?_ _)); exact BK246.out)) : gb246 ≠ gb270)); have n15_ := zzm ((by rw [hg]; exact Nat.ne_of_gt (blk_lt (g := gb246) (o := .cells #[.bool t237, .bool t238, .int .i64 t239, .int .i64 t240, .int .i64 t241, .slice Ao11 t242.length co11] 27 (0, 0)) (by (with_reducible repeat (first | refine zzf ?_ _ | refine zzg ?_ | refine zze ?_ _)); exact BK246.out)) : gb270 ≠ gb246)); have n16_ := zzm ((by rw [hg]; exact Nat.ne_of_lt (blk_lt (g := gb256) (o := .cells #[.bool t247, .bool t248, .int .i64 t249, .int .i64 t250, .int .i64 t251, .slice Ao16 t252.length co16] 27 (0, 0)) (by (with_reducible repeat (first | refine zzf ?_ _ | refine zzg ?_ | refine zze ?_ _)); exact BK256.out)) : gb256 ≠ gb270)); have n17_ := zzm ((by rw [hg]; exact Nat.ne_of_gt (blk_lt (g := gb256) (o := .cells #[.bool t247, .bool t248, .int .i64 t249, .int .i64 t250, .int .i64 t251, .slice Ao16 t252.length co16] 27 (0, 0)) (by (with_reducible repeat (first | refine zzf ?_ _ | refine zzg ?_ | refine zze ?_ _)); exact BK256.out)) : gb270 ≠ gb256)); have n18_ := zzm ((by rw [hg]; exact Nat.ne_of_lt (blk_lt (g := gb268) (o := .cells #[.bool t259, .bool t260, .int .i64 t261, .int .i64 t262, .int .i64 t263, .slice (some ad269) t264.length co46] 27 (0, 0)) (by (with_reducible repeat (first | refine zzf ?_ _ | refine zzg ?_ | refine zze ?_ _)); exact BK268.out)) : gb268 ≠ gb270)); have n19_ := zzm ((by rw [hg]; exact Nat.ne_of_gt (blk_lt (g := gb268) (o := .cells #[.bool t259, .bool t260, .int .i64 t261, .int .i64 t262, .int .i64 t263, .slice (some ad269) t264.length co46] 27 (0, 0)) (by (with_reducible repeat (first | refine zzf ?_ _ | refine zzg ?_ | refine zze ?_ _)); exact BK268.out)) : gb270 ≠ gb268)); clear HO_247005 HO_257005 HO266 HL269_3 HL269_5 BK246 BK256 BK268 HR269_3 HR269_5 HB; have HO_247005 := n0_; have HO_257005 := n1_; have HO266 := n2_; have HL269_3 := n3_; have HL269_5 := n4_; have BK246 := n5_; have BK256 := n6_; have BK268 := n7_; have HR269_3 := n8_; have HR269_5 := n9_; have HB := n10_; have BK270 := n11_; have GW270 := n12_; have GE270 := n13_; have NB246_270 := n14_; have NB270_246 := n15_; have NB256_270 := n16_; have NB270_256 := n17_; have NB268_270 := n18_; have NB270_268 := n19_; clear n0_ n1_ n2_ n3_ n4_ n5_ n6_ n7_ n8_ n9_ n10_ n11_ n12_ n13_ n14_ n15_ n16_ n17_ n18_ n19_ hb hbox hg; have hnb50 := NB270_246.out; have hnc50 := NB246_270.out; have hnb51 := NB270_256.out; have hnc51 := NB256_270.out; have hnb52 := NB270_268.out; have hnc52 := NB268_270.out; obtain ⟨hcz53_0, hcz53_1, hcz53_2, hcz53_3, hcz53_4, hcz53_5, hfz53_0, hfz53_1, hfz53_2, hfz53_3, hfz53_4, hfz53_5⟩ := zzc6 BK270.out) | ((with_reducible refine gate_store (t := 34) (p := 14) rfl ?_); refine store_event (t := 34) (p := 14) (v := ?vo_w54) (w1 := ((((((w49.setCell ⟨gb270, 0, none⟩ (.int .i64 ((rd_T34 t264 0).f0))).setCell ⟨gb270, 1, none⟩ (.int .i64 ((rd_T34 t264 0).f1))).setCell ⟨gb270, 2, none⟩ (.bool ((rd_T34 t264 0).f2))).setCell ⟨gb270, 3, none⟩ (.slice A269_3 ((rd_T34 t264 0).f3).length c269_3)).setCell ⟨gb270, 4, none⟩ (.bool ((rd_T34 t264 0).f4))).setCell ⟨gb270, 5, none⟩ (.slice A269_5 ((rd_T34 t264 0).f5).length c269_5))) ?hg ?ho ?hn ?hr ?_; (case ho => rfl); (case hg => rfl); (case hn => rfl); (case hr => first | (go_simp; done) | (go_simp; rfl)); intro w54 hw; have n0_ : Aside0 (Kd.N k34 34 w54 w.heap.size (fun k_ => some k_ ≠ (.slice Ao16 t252.length co16 : Value).ownBlock ∧ some k_ ≠ (.slice (some ad269) t264.length co46 : Value).ownBlock ∧ k_ ≠ gb246 ∧ k_ ≠ gb256 ∧ k_ ≠ gb268 ∧ k_ ≠ gb270) (.slice Ao11 t242.length co11) t242) := ⟨(by rw [hw]; exact (by (with_reducible repeat (first | apply Kd.N_alloc | apply Kd.N_drewN | apply Kd.N_drew)); exact Kd.N_mono (Kd.N_far (p := ⟨gb270, 5, none⟩) (Kd.N_far (p := ⟨gb270, 4, none⟩) (Kd.N_far (p := ⟨gb270, 3, none⟩) (Kd.N_far (p := ⟨gb270, 2, none⟩) (Kd.N_far (p := ⟨gb270, 1, none⟩) (Kd.N_far (p := ⟨gb270, 0, none⟩) (Kd.N_mono HO_247005.out (fun k_ hk => (⟨hk, hk.2⟩ : _ ∧ k_ ≠ gb270))) (fun _ hk => hk.2) (.int .i64 ((rd_T34 t264 0).f0))) (fun _ hk => hk.2) (.int .i64 ((rd_T34 t264 0).f1))) (fun _ hk => hk.2) (.bool ((rd_T34 t264 0).f2))) (fun _ hk => hk.2) (.slice A269_3 ((rd_T34 t264 0).f3).length c269_3)) (fun _ hk => hk.2) (.bool ((rd_T34 t264 0).f4))) (fun _ hk => hk.2) (.slice A269_5 ((rd_T34 t264 0).f5).length c269_5)) (fun _ hk => ⟨hk.1.1.1, ⟨hk.1.1.2.1, ⟨hk.1.1.2.2.1, ⟨hk.1.1.2.2.2.1, ⟨hk.1.1.2.2.2.2, hk.1.2⟩⟩⟩⟩⟩)))⟩; have n1_ : Aside0 (Kd.N k34 34 w54 w.heap.size (fun k_ => some k_ ≠ (.slice Ao11 t242.length co11 : Value).ownBlock ∧ some k_ ≠ (.slice (some ad269) t264.length co46 : Value).ownBlock ∧ k_ ≠ gb246 ∧ k_ ≠ gb256 ∧ k_ ≠ gb268 ∧ k_ ≠ gb270) (.slice Ao16 t252.length co16) t252) := ⟨(by rw [hw]; exact (by (with_reducible repeat (first | apply Kd.N_alloc | apply Kd.N_drewN | apply Kd.N_drew)); exact Kd.N_mono (Kd.N_far (p := ⟨gb270, 5, none⟩) (Kd.N_far (p := ⟨gb270, 4, none⟩) (Kd.N_far (p := ⟨gb270, 3, none⟩) (Kd.N_far (p := ⟨gb270, 2, none⟩) (Kd.N_far (p := ⟨gb270, 1, none⟩) (Kd.N_far (p := ⟨gb270, 0, none⟩) (Kd.N_mono HO_257005.out (fun k_ hk => (⟨hk, hk.2⟩ : _ ∧ k_ ≠ gb270))) (fun _ hk => hk.2) (.int .i64 ((rd_T34 t264 0).f0))) (fun _ hk => hk.2) (.int .i64 ((rd_T34 t264 0).f1))) (fun _ hk => hk.2) (.bool ((rd_T34 t264 0).f2))) (fun _ hk => hk.2) (.slice A269_3 ((rd_T34 t264 0).f3).length c269_3)) (fun _ hk => hk.2) (.bool ((rd_T34 t264 0).f4))) (fun _ hk => hk.2) (.slice A269_5 ((rd_T34 t264 0).f5).length c269_5)) (fun _ hk => ⟨hk.1.1.1, ⟨hk.1.1.2.1, ⟨hk.1.1.2.2.1, ⟨hk.1.1.2.2.2.1, ⟨hk.1.1.2.2.2.2, hk.1.2⟩⟩⟩⟩⟩)))⟩; have n2_ : Aside0 (Kd.N k34 34 w54 w.heap.size (fun k_ => some k_ ≠ (.slice Ao11 t242.length co11 : Value).ownBlock ∧ some k_ ≠ (.slice Ao16 t252.length co16 : Value).ownBlock ∧ k_ ≠ gb246 ∧ k_ ≠ gb256 ∧ k_ ≠ gb268 ∧ k_ ≠ gb270) (.slice (some ad269) t264.length co46) t264) := ⟨(by rw [hw]; exact (by (with_reducible repeat (first | apply Kd.N_alloc | apply Kd.N_drewN | apply Kd.N_drew)); exact Kd.N_mono (Kd.N_far (p := ⟨gb270, 5, none⟩) (Kd.N_far (p := ⟨gb270, 4, none⟩) (Kd.N_far (p := ⟨gb270, 3, none⟩) (Kd.N_far (p := ⟨gb270, 2, none⟩) (Kd.N_far (p := ⟨gb270, 1, none⟩) (Kd.N_far (p := ⟨gb270, 0, none⟩) (Kd.N_mono HO266.out (fun k_ hk => (⟨hk, hk.2⟩ : _ ∧ k_ ≠ gb270))) (fun _ hk => hk.2) (.int .i64 ((rd_T34 t264 0).f0))) (fun _ hk => hk.2) (.int .i64 ((rd_T34 t264 0).f1))) (fun _ hk => hk.2) (.bool ((rd_T34 t264 0).f2))) (fun _ hk => hk.2) (.slice A269_3 ((rd_T34 t264 0).f3).length c269_3)) (fun _ hk => hk.2) (.bool ((rd_T34 t264 0).f4))) (fun _ hk => hk.2) (.slice A269_5 ((rd_T34 t264 0).f5).length c269_5)) (fun _ hk => ⟨hk.1.1.1, ⟨hk.1.1.2.1, ⟨hk.1.1.2.2.1, ⟨hk.1.1.2.2.2.1, ⟨hk.1.1.2.2.2.2, hk.1.2⟩⟩⟩⟩⟩)))⟩; have n3_ : Aside0 (Kd.V (Kd.int .i64) 3 w54 w.heap.size (fun k_ => some k_ ≠ (.slice Ao11 t242.length co11 : Value).ownBlock ∧ some k_ ≠ (.slice Ao16 t252.length co16 : Value).ownBlock ∧ some k_ ≠ (.slice (some ad269) t264.length co46 : Value).ownBlock ∧ k_ ≠ gb246 ∧ k_ ≠ gb256 ∧ k_ ≠ gb268 ∧ k_ ≠ gb270) (.slice A269_3 ((rd_T34 t264 0).f3).length c269_3) ((rd_T34 t264 0).f3)) := ⟨(by rw [hw]; exact (by (with_reducible repeat (first | apply Kd.V_alloc | apply Kd.V_drewN | apply Kd.V_drew)); exact Kd.V_mono (Kd.V_far (p := ⟨gb270, 5, none⟩) (Kd.V_far (p := ⟨gb270, 4, none⟩) (Kd.V_far (p := ⟨gb270, 3, none⟩) (Kd.V_far (p := ⟨gb270, 2, none⟩) (Kd.V_far (p := ⟨gb270, 1, none⟩) (Kd.V_far (p := ⟨gb270, 0, none⟩) (Kd.V_mono HL269_3.out (fun k_ hk => (⟨hk, hk.2⟩ : _ ∧ k_ ≠ gb270))) (fun _ hk => hk.2) (.int .i64 ((rd_T34 t264 0).f0))) (fun _ hk => hk.2) (.int .i64 ((rd_T34 t264 0).f1))) (fun _ hk => hk.2) (.bool ((rd_T34 t264 0).f2))) (fun _ hk => hk.2) (.slice A269_3 ((rd_T34 t264 0).f3).length c269_3)) (fun _ hk => hk.2) (.bool ((rd_T34 t264 0).f4))) (fun _ hk => hk.2) (.slice A269_5 ((rd_T34 t264 0).f5).length c269_5)) (fun _ hk => ⟨hk.1.1.1.1, ⟨hk.1.1.1.2.1, ⟨hk.1.1.2, ⟨hk.1.1.1.2.2.1, ⟨hk.1.1.1.2.2.2.1, ⟨hk.1.1.1.2.2.2.2, hk.1.2⟩⟩⟩⟩⟩⟩)))⟩; have n4_ : Aside0 (Kd.V (Kd.int .i64) 3 w54 w.heap.size (fun k_ => some k_ ≠ (.slice Ao11 t242.length co11 : Value).ownBlock ∧ some k_ ≠ (.slice Ao16 t252.length co16 : Value).ownBlock ∧ some k_ ≠ (.slice (some ad269) t264.length co46 : Value).ownBlock ∧ k_ ≠ gb246 ∧ k_ ≠ gb256 ∧ k_ ≠ gb268 ∧ k_ ≠ gb270) (.slice A269_5 ((rd_T34 t264 0).f5).length c269_5) ((rd_T34 t264 0).f5)) := ⟨(by rw [hw]; exact (by (with_reducible repeat (first | apply Kd.V_alloc | apply Kd.V_drewN | apply Kd.V_drew)); exact Kd.V_mono (Kd.V_far (p := ⟨gb270, 5, none⟩) (Kd.V_far (p := ⟨gb270, 4, none⟩) (Kd.V_far (p := ⟨gb270, 3, none⟩) (Kd.V_far (p := ⟨gb270, 2, none⟩) (Kd.V_far (p := ⟨gb270, 1, none⟩) (Kd.V_far (p := ⟨gb270, 0, none⟩) (Kd.V_mono HL269_5.out (fun k_ hk => (⟨hk, hk.2⟩ : _ ∧ k_ ≠ gb270))) (fun _ hk => hk.2) (.int .i64 ((rd_T34 t264 0).f0))) (fun _ hk => hk.2) (.int .i64 ((rd_T34 t264 0).f1))) (fun _ hk => hk.2) (.bool ((rd_T34 t264 0).f2))) (fun _ hk => hk.2) (.slice A269_3 ((rd_T34 t264 0).f3).length c269_3)) (fun _ hk => hk.2) (.bool ((rd_T34 t264 0).f4))) (fun _ hk => hk.2) (.slice A269_5 ((rd_T34 t264 0).f5).length c269_5)) (fun _ hk => ⟨hk.1.1.1.1, ⟨hk.1.1.1.2.1, ⟨hk.1.1.2, ⟨hk.1.1.1.2.2.1, ⟨hk.1.1.1.2.2.2.1, ⟨hk.1.1.1.2.2.2.2, hk.1.2⟩⟩⟩⟩⟩⟩)))⟩; have n5_ : Aside0 (w54.heap[gb246]? = some (.cells #[.bool t237, .bool t238, .int .i64 t239, .int .i64 t240, .int .i64 t241, .slice Ao11 t242.length co11] 27 (0, 0))) := ⟨(by rw [hw]; exact (by (with_reducible repeat (first | refine zzf ?_ _ | refine zzg ?_ | refine zze ?_ _)); refine zzj ?_ NB246_270.out _; (with_reducible repeat (first | refine zzf ?_ _ | refine zzg ?_ | refine zze ?_ _)); refine zzj ?_ NB246_270.out _; (with_reducible repeat (first | refine zzf ?_ _ | refine zzg ?_ | refine zze ?_ _)); refine zzj ?_ NB246_270.out _; (with_reducible repeat (first | refine zzf ?_ _ | refine zzg ?_ | refine zze ?_ _)); refine zzj ?_ NB246_270.out _; (with_reducible repeat (first | refine zzf ?_ _ | refine zzg ?_ | refine zze ?_ _)); refine zzj ?_ NB246_270.out _; (with_reducible repeat (first | refine zzf ?_ _ | refine zzg ?_ | refine zze ?_ _)); refine zzj ?_ NB246_270.out _; (with_reducible repeat (first | refine zzf ?_ _ | refine zzg ?_ | refine zze ?_ _)); exact BK246.out))⟩; have n6_ : Aside0 (w54.heap[gb256]? = some (.cells #[.bool t247, .bool t248, .int .i64 t249, .int .i64 t250, .int .i64 t251, .slice Ao16 t252.length co16] 27 (0, 0))) := ⟨(by rw [hw]; exact (by (with_reducible repeat (first | refine zzf ?_ _ | refine zzg ?_ | refine zze ?_ _)); refine zzj ?_ NB256_270.out _; (with_reducible repeat (first | refine zzf ?_ _ | refine zzg ?_ | refine zze ?_ _)); refine zzj ?_ NB256_270.out _; (with_reducible repeat (first | refine zzf ?_ _ | refine zzg ?_ | refine zze ?_ _)); refine zzj ?_ NB256_270.out _; (with_reducible repeat (first | refine zzf ?_ _ | refine zzg ?_ | refine zze ?_ _)); refine zzj ?_ NB256_270.out _; (with_reducible repeat (first | refine zzf ?_ _ | refine zzg ?_ | refine zze ?_ _)); refine zzj ?_ NB256_270.out _; (with_reducible repeat (first | refine zzf ?_ _ | refine zzg ?_ | refine zze ?_ _)); refine zzj ?_ NB256_270.out _; (with_reducible repeat (first | refine zzf ?_ _ | refine zzg ?_ | refine zze ?_ _)); exact BK256.out))⟩; have n7_ : Aside0 (w54.heap[gb268]? = some (.cells #[.bool t259, .bool t260, .int .i64 t261, .int .i64 t262, .int .i64 t263, .slice (some ad269) t264.length co46] 27 (0, 0))) := ⟨(by rw [hw]; exact (by (with_reducible repeat (first | refine zzf ?_ _ | refine zzg ?_ | refine zze ?_ _)); refine zzj ?_ NB268_270.out _; (with_reducible repeat (first | refine zzf ?_ _ | refine zzg ?_ | refine zze ?_ _)); refine zzj ?_ NB268_270.out _; (with_reducible repeat (first | refine zzf ?_ _ | refine zzg ?_ | refine zze ?_ _)); refine zzj ?_ NB268_270.out _; (with_reducible repeat (first | refine zzf ?_ _ | refine zzg ?_ | refine zze ?_ _)); refine zzj ?_ NB268_270.out _; (with_reducible repeat (first | refine zzf ?_ _ | refine zzg ?_ | refine zze ?_ _)); refine zzj ?_ NB268_270.out _; (with_reducible repeat (first | refine zzf ?_ _ | refine zzg ?_ | refine zze ?_ _)); refine zzj ?_ NB268_270.out _; (with_reducible repeat (first | refine zzf ?_ _ | refine zzg ?_ | refine zze ?_ _)); exact BK268.out))⟩; have n8_ : Aside0 (w54.heap[gb270]? = some (.cells #[.int .i64 ((rd_T34 t264 0).f0), .int .i64 ((rd_T34 t264 0).f1), .bool ((rd_T34 t264 0).f2), .slice A269_3 ((rd_T34 t264 0).f3).length c269_3, .bool ((rd_T34 t264 0).f4), .slice A269_5 ((rd_T34 t264 0).f5).length c269_5] 34 (0, 0))) := ⟨(by rw [hw]; exact (by (with_reducible repeat (first | refine zzf ?_ _ | refine zzg ?_ | refine zze ?_ _)); refine zzi (cs := #[.int .i64 ((rd_T34 t264 0).f0), .int .i64 ((rd_T34 t264 0).f1), .bool ((rd_T34 t264 0).f2), .slice A269_3 ((rd_T34 t264 0).f3).length c269_3, .bool ((rd_T34 t264 0).f4), .slice none 0 0]) ?_ 5 _ rfl; (with_reducible repeat (first | refine zzf ?_ _ | refine zzg ?_ | refine zze ?_ _)); refine zzi (cs := #[.int .i64 ((rd_T34 t264 0).f0), .int .i64 ((rd_T34 t264 0).f1), .bool ((rd_T34 t264 0).f2), .slice A269_3 ((rd_T34 t264 0).f3).length c269_3, .bool false, .slice none 0 0]) ?_ 4 _ rfl; (with_reducible repeat (first | refine zzf ?_ _ | refine zzg ?_ | refine zze ?_ _)); refine zzi (cs := #[.int .i64 ((rd_T34 t264 0).f0), .int .i64 ((rd_T34 t264 0).f1), .bool ((rd_T34 t264 0).f2), .slice none 0 0, .bool false, .slice none 0 0]) ?_ 3 _ rfl; (with_reducible repeat (first | refine zzf ?_ _ | refine zzg ?_ | refine zze ?_ _)); refine zzi (cs := #[.int .i64 ((rd_T34 t264 0).f0), .int .i64 ((rd_T34 t264 0).f1), .bool false, .slice none 0 0, .bool false, .slice none 0 0]) ?_ 2 _ rfl; (with_reducible repeat (first | refine zzf ?_ _ | refine zzg ?_ | refine zze ?_ _)); refine zzi (cs := #[.int .i64 ((rd_T34 t264 0).f0), .int .i64 0, .bool false, .slice none 0 0, .bool false, .slice none 0 0]) ?_ 1 _ rfl; (with_reducible repeat (first | refine zzf ?_ _ | refine zzg ?_ | refine zze ?_ _)); refine zzi (cs := #[.int .i64 0, .int .i64 0, .bool false, .slice none 0 0, .bool false, .slice none 0 0]) ?_ 0 _ rfl; (with_reducible repeat (first | refine zzf ?_ _ | refine zzg ?_ | refine zze ?_ _)); exact BK270.out))⟩; have n9_ : Aside0 (Below w.heap.size w w54) := ⟨(by rw [hw]; exact (by repeat (first | (with_reducible first | exact HB.out | apply zza | apply zzb | apply zzc | refine zzd ?_ GE246.out | refine zzd ?_ GE256.out | refine zzd ?_ GE268.out | refine zzd ?_ GE270.out) | exact HB.out)))⟩; clear hw HO_247005 HO_257005 HO266 HL269_3 HL269_5 BK246 BK256 BK268 BK270 HB; have HO_247005 := n0_; have HO_257005 := n1_; have HO266 := n2_; have HL269_3 := n3_; have HL269_5 := n4_; have BK246 := n5_; have BK256 := n6_; have BK268 := n7_; have BK270 := n8_; have HB := n9_; clear n0_ n1_ n2_ n3_ n4_ n5_ n6_ n7_ n8_ n9_; have hnb55 := NB246_256.out; have hnc55 := NB256_246.out; obtain ⟨hcz56_0, hcz56_1, hcz56_2, hcz56_3, hcz56_4, hcz56_5, hfz56_0, hfz56_1, hfz56_2, hfz56_3, hfz56_4, hfz56_5⟩ := zzc6 BK246.out; have p271 : 0 ≤ (0 : Int) := (by omega); have q271 : 0 < (t242.length : Int) := of_decide_eq_true (by first | (with_reducible assumption) | assumption); obtain ⟨ad271, A271_3, c271_3, A271_5, c271_5, e271, hx271_0, hx271_1, hx271_2, hx271_3, hx271_4, hx271_5, hl271_3, hi271_3, hl271_5, hi271_5⟩ := at_T34 (Kd.N_reads' HO_247005.out).2.2 0 p271 q271; cases e271; obtain ⟨ce271, hce271, hMe271, hcc271⟩ := Kd.N_get HO_247005.out z34 0 p271 (by first | exact q271 | exact of_decide_eq_true (by first | (with_reducible assumption) | assumption) | (have e_ := (Kd.N_reads' HO_247005.out).1; omega)); obtain ⟨ua271_3, uc271_3, ua271_5, uc271_5, rfl, ul271_3, ge271_3, ul271_5, ge271_5⟩ := k34_openF hMe271; have hv271_3 := hcc271 3 _ rfl; rw [add_field _ _ 3 (by omega)] at hv271_3; replace hv271_3 := Option.some.inj (hv271_3.symm.trans hx271_3); injection hv271_3 with hva_ hvn_ hvc_; rw [hva_] at ge271_3; rw [hvc_] at ul271_3; have HL271_3 := zzm (show Kd.V (Kd.int .i64) 3 _ w.heap.size _ _ ((rd_T34 t242 0).f3) from Kd.V_mk ul271_3 ge271_3); clear hva_ hvn_ hvc_ ge271_3 ul271_3; have hv271_5 := hcc271 5 _ rfl; rw [add_field _ _ 5 (by omega)] at hv271_5; replace hv271_5 := Option.some.inj (hv271_5.symm.trans hx271_5); injection hv271_5 with hva_ hvn_ hvc_; rw [hva_] at ge271_5; rw [hvc_] at ul271_5; have HL271_5 := zzm (show Kd.V (Kd.int .i64) 3 _ w.heap.size _ _ ((rd_T34 t242 0).f5) from Kd.V_mk ul271_5 ge271_5); clear hva_ hvn_ hvc_ ge271_5 ul271_5 hcc271 hce271; have qi271 : (0 < t242.length) = True := eq_true (by omega); (try rw [show ((0 : Int)).toNat = 0 from rfl] at hx271_0); (try rw [show 0 * 6 = 0 from rfl] at hx271_0); (try rw [Addr.add_zero'] at hx271_0); (try rw [show ((0 : Int)).toNat = 0 from rfl] at hx271_1); (try rw [show 0 * 6 = 0 from rfl] at hx271_1); (try rw [Addr.add_zero'] at hx271_1); (try rw [show ((0 : Int)).toNat = 0 from rfl] at hx271_2); (try rw [show 0 * 6 = 0 from rfl] at hx271_2); (try rw [Addr.add_zero'] at hx271_2); (try rw [show ((0 : Int)).toNat = 0 from rfl] at hx271_3); (try rw [show 0 * 6 = 0 from rfl] at hx271_3); (try rw [Addr.add_zero'] at hx271_3); (try rw [show ((0 : Int)).toNat = 0 from rfl] at hx271_4); (try rw [show 0 * 6 = 0 from rfl] at hx271_4); (try rw [Addr.add_zero'] at hx271_4); (try rw [show ((0 : Int)).toNat = 0 from rfl] at hx271_5); (try rw [show 0 * 6 = 0 from rfl] at hx271_5); (try rw [Addr.add_zero'] at hx271_5); have HR271_3 := zzm hi271_3; have HC271_3 := zzm hl271_3; clear hi271_3 hl271_3; have HR271_5 := zzm hi271_5; have HC271_5 := zzm hl271_5; clear hi271_5 hl271_5; replace p271 := eq_true p271; replace q271 := eq_true q271; obtain ⟨hcz57_0, hcz57_1, hcz57_2, hcz57_3, hcz57_4, hcz57_5, hfz57_0, hfz57_1, hfz57_2, hfz57_3, hfz57_4, hfz57_5⟩ := zzc6 BK270.out))
         have n0_ : Aside0 (Kd.N k34 34 (w54.setCell ⟨gb270, 5, none⟩ (.slice A271_5 ((rd_T34 t242 0).f5).length c271_5)) w.heap.size (fun k_ => some k_ ≠ (.slice Ao16 t252.length co16 : Value).ownBlock ∧ some k_ ≠ (.slice (some ad269) t264.length co46 : Value).ownBlock ∧ k_ ≠ gb246 ∧ k_ ≠ gb256 ∧ k_ ≠ gb268 ∧ k_ ≠ gb270) (.slice (some ad271) t242.length co11) t242) := ⟨by (with_reducible repeat (first | apply Kd.N_alloc | apply Kd.N_drewN | apply Kd.N_drew)); exact Kd.N_mono (Kd.N_far (p := ⟨gb270, 5, none⟩) (Kd.N_mono HO_247005.out (fun k_ hk => (⟨hk, hk.2.2.2.2.2⟩ : _ ∧ k_ ≠ gb270))) (fun _ hk => hk.2) (.slice A271_5 ((rd_T34 t242 0).f5).length c271_5)) (fun _ hk => ⟨hk.1.1, ⟨hk.1.2.1, ⟨hk.1.2.2.1, ⟨hk.1.2.2.2.1, ⟨hk.1.2.2.2.2.1, hk.1.2.2.2.2.2⟩⟩⟩⟩⟩)⟩
         have n1_ : Aside0 (Kd.N k34 34 (w54.setCell ⟨gb270, 5, none⟩ (.slice A271_5 ((rd_T34 t242 0).f5).length c271_5)) w.heap.size (fun k_ => some k_ ≠ (.slice (some ad271) t242.length co11 : Value).ownBlock ∧ some k_ ≠ (.slice (some ad269) t264.length co46 : Value).ownBlock ∧ k_ ≠ gb246 ∧ k_ ≠ gb256 ∧ k_ ≠ gb268 ∧ k_ ≠ gb270) (.slice Ao16 t252.length co16) t252) := ⟨by (with_reducible repeat (first | apply Kd.N_alloc | apply Kd.N_drewN | apply Kd.N_drew)); exact Kd.N_mono (Kd.N_far (p := ⟨gb270, 5, none⟩) (Kd.N_mono HO_257005.out (fun k_ hk => (⟨hk, hk.2.2.2.2.2⟩ : _ ∧ k_ ≠ gb270))) (fun _ hk => hk.2) (.slice A271_5 ((rd_T34 t242 0).f5).length c271_5)) (fun _ hk => ⟨hk.1.1, ⟨hk.1.2.1, ⟨hk.1.2.2.1, ⟨hk.1.2.2.2.1, ⟨hk.1.2.2.2.2.1, hk.1.2.2.2.2.2⟩⟩⟩⟩⟩)⟩
         have n2_ : Aside0 (Kd.N k34 34 (w54.setCell ⟨gb270, 5, none⟩ (.slice A271_5 ((rd_T34 t242 0).f5).length c271_5)) w.heap.size (fun k_ => some k_ ≠ (.slice (some ad271) t242.length co11 : Value).ownBlock ∧ some k_ ≠ (.slice Ao16 t252.length co16 : Value).ownBlock ∧ k_ ≠ gb246 ∧ k_ ≠ gb256 ∧ k_ ≠ gb268 ∧ k_ ≠ gb270) (.slice (some ad269) t264.length co46) t264) := ⟨by (with_reducible repeat (first | apply Kd.N_alloc | apply Kd.N_drewN | apply Kd.N_drew)); exact Kd.N_mono (Kd.N_far (p := ⟨gb270, 5, none⟩) (Kd.N_mono HO266.out (fun k_ hk => (⟨hk, hk.2.2.2.2.2⟩ : _ ∧ k_ ≠ gb270))) (fun _ hk => hk.2) (.slice A271_5 ((rd_T34 t242 0).f5).length c271_5)) (fun _ hk => ⟨hk.1.1, ⟨hk.1.2.1, ⟨hk.1.2.2.1, ⟨hk.1.2.2.2.1, ⟨hk.1.2.2.2.2.1, hk.1.2.2.2.2.2⟩⟩⟩⟩⟩)⟩
         have n3_ : Aside0 (Kd.V (Kd.int .i64) 3 (w54.setCell ⟨gb270, 5, none⟩ (.slice A271_5 ((rd_T34 t242 0).f5).length c271_5)) w.heap.size (fun k_ => some k_ ≠ (.slice (some ad271) t242.length co11 : Value).ownBlock ∧ some k_ ≠ (.slice Ao16 t252.length co16 : Value).ownBlock ∧ some k_ ≠ (.slice (some ad269) t264.length co46 : Value).ownBlock ∧ k_ ≠ gb246 ∧ k_ ≠ gb256 ∧ k_ ≠ gb268 ∧ k_ ≠ gb270) (.slice A269_3 ((rd_T34 t264 0).f3).length c269_3) ((rd_T34 t264 0).f3)) := ⟨by (with_reducible repeat (first | apply Kd.V_alloc | apply Kd.V_drewN | apply Kd.V_drew)); exact Kd.V_mono (Kd.V_far (p := ⟨gb270, 5, none⟩) (Kd.V_mono HL269_3.out (fun k_ hk => (⟨hk, hk.2.2.2.2.2.2⟩ : _ ∧ k_ ≠ gb270))) (fun _ hk => hk.2) (.slice A271_5 ((rd_T34 t242 0).f5).length c271_5)) (fun _ hk => ⟨hk.1.1, ⟨hk.1.2.1, ⟨hk.1.2.2.1, ⟨hk.1.2.2.2.1, ⟨hk.1.2.2.2.2.1, ⟨hk.1.2.2.2.2.2.1, hk.1.2.2.2.2.2.2⟩⟩⟩⟩⟩⟩)⟩
         have n4_ : Aside0 (Kd.V (Kd.int .i64) 3 (w54.setCell ⟨gb270, 5, none⟩ (.slice A271_5 ((rd_T34 t242 0).f5).length c271_5)) w.heap.size (fun k_ => some k_ ≠ (.slice (some ad271) t242.length co11 : Value).ownBlock ∧ some k_ ≠ (.slice Ao16 t252.length co16 : Value).ownBlock ∧ some k_ ≠ (.slice (some ad269) t264.length co46 : Value).ownBlock ∧ k_ ≠ gb246 ∧ k_ ≠ gb256 ∧ k_ ≠ gb268 ∧ k_ ≠ gb270) (.slice A269_5 ((rd_T34 t264 0).f5).length c269_5) ((rd_T34 t264 0).f5)) := ⟨by (with_reducible repeat (first | apply Kd.V_alloc | apply Kd.V_drewN | apply Kd.V_drew)); exact Kd.V_mono (Kd.V_far (p := ⟨gb270, 5, none⟩) (Kd.V_mono HL269_5.out (fun k_ hk => (⟨hk, hk.2.2.2.2.2.2⟩ : _ ∧ k_ ≠ gb270))) (fun _ hk => hk.2) (.slice A271_5 ((rd_T34 t242 0).f5).length c271_5)) (fun _ hk => ⟨hk.1.1, ⟨hk.1.2.1, ⟨hk.1.2.2.1, ⟨hk.1.2.2.2.1, ⟨hk.1.2.2.2.2.1, ⟨hk.1.2.2.2.2.2.1, hk.1.2.2.2.2.2.2⟩⟩⟩⟩⟩⟩)⟩
         have n5_ : Aside0 (Kd.V (Kd.int .i64) 3 (w54.setCell ⟨gb270, 5, none⟩ (.slice A271_5 ((rd_T34 t242 0).f5).length c271_5)) w.heap.size (fun k_ => some k_ ≠ (.slice (some ad271) t242.length co11 : Value).ownBlock ∧ some k_ ≠ (.slice Ao16 t252.length co16 : Value).ownBlock ∧ some k_ ≠ (.slice (some ad269) t264.length co46 : Value).ownBlock ∧ k_ ≠ gb246 ∧ k_ ≠ gb256 ∧ k_ ≠ gb268 ∧ k_ ≠ gb270) (.slice A271_3 ((rd_T34 t242 0).f3).length c271_3) ((rd_T34 t242 0).f3)) := ⟨by (with_reducible repeat (first | apply Kd.V_alloc | apply Kd.V_drewN | apply Kd.V_drew)); exact Kd.V_mono (Kd.V_far (p := ⟨gb270, 5, none⟩) (Kd.V_mono HL271_3.out (fun k_ hk => (⟨hk, hk.1.2.2.2.2.2⟩ : _ ∧ k_ ≠ gb270))) (fun _ hk => hk.2) (.slice A271_5 ((rd_T34 t242 0).f5).length c271_5)) (fun _ hk => ⟨hk.1.2, ⟨hk.1.1.1, ⟨hk.1.1.2.1, ⟨hk.1.1.2.2.1, ⟨hk.1.1.2.2.2.1, ⟨hk.1.1.2.2.2.2.1, hk.1.1.2.2.2.2.2⟩⟩⟩⟩⟩⟩)⟩
         have n6_ : Aside0 (Kd.V (Kd.int .i64) 3 (w54.setCell ⟨gb270, 5, none⟩ (.slice A271_5 ((rd_T34 t242 0).f5).length c271_5)) w.heap.size (fun k_ => some k_ ≠ (.slice (some ad271) t242.length co11 : Value).ownBlock ∧ some k_ ≠ (.slice Ao16 t252.length co16 : Value).ownBlock ∧ some k_ ≠ (.slice (some ad269) t264.length co46 : Value).ownBlock ∧ k_ ≠ gb246 ∧ k_ ≠ gb256 ∧ k_ ≠ gb268 ∧ k_ ≠ gb270) (.slice A271_5 ((rd_T34 t242 0).f5).length c271_5) ((rd_T34 t242 0).f5)) := ⟨by (with_reducible repeat (first | apply Kd.V_alloc | apply Kd.V_drewN | apply Kd.V_drew)); exact Kd.V_mono (Kd.V_far (p := ⟨gb270, 5, none⟩) (Kd.V_mono HL271_5.out (fun k_ hk => (⟨hk, hk.1.2.2.2.2.2⟩ : _ ∧ k_ ≠ gb270))) (fun _ hk => hk.2) (.slice A271_5 ((rd_T34 t242 0).f5).length c271_5)) (fun _ hk => ⟨hk.1.2, ⟨hk.1.1.1, ⟨hk.1.1.2.1, ⟨hk.1.1.2.2.1, ⟨hk.1.1.2.2.2.1, ⟨hk.1.1.2.2.2.2.1, hk.1.1.2.2.2.2.2⟩⟩⟩⟩⟩⟩)⟩
         have n7_ : Aside0 ((w54.setCell ⟨gb270, 5, none⟩ (.slice A271_5 ((rd_T34 t242 0).f5).length c271_5)).heap[gb246]? = some (.cells #[.bool t237, .bool t238, .int .i64 t239, .int .i64 t240, .int .i64 t241, .slice (some ad271) t242.length co11] 27 (0, 0))) := ⟨by (with_reducible repeat (first | refine zzf ?_ _ | refine zzg ?_ | refine zze ?_ _)); refine zzj ?_ NB246_270.out _; (with_reducible repeat (first | refine zzf ?_ _ | refine zzg ?_ | refine zze ?_ _)); exact BK246.out⟩
         have n8_ : Aside0 ((w54.setCell ⟨gb270, 5, none⟩ (.slice A271_5 ((rd_T34 t242 0).f5).length c271_5)).heap[gb256]? = some (.cells #[.bool t247, .bool t248, .int .i64 t249, .int .i64 t250, .int .i64 t251, .slice Ao16 t252.length co16] 27 (0, 0))) := ⟨by (with_reducible repeat (first | refine zzf ?_ _ | refine zzg ?_ | refine zze ?_ _)); refine zzj ?_ NB256_270.out _; (with_reducible repeat (first | refine zzf ?_ _ | refine zzg ?_ | refine zze ?_ _)); exact BK256.out⟩
         have n9_ : Aside0 ((w54.setCell ⟨gb270, 5, none⟩ (.slice A271_5 ((rd_T34 t242 0).f5).length c271_5)).heap[gb268]? = some (.cells #[.bool t259, .bool t260, .int .i64 t261, .int .i64 t262, .int .i64 t263, .slice (some ad269) t264.length co46] 27 (0, 0))) := ⟨by (with_reducible repeat (first | refine zzf ?_ _ | refine zzg ?_ | refine zze ?_ _)); refine zzj ?_ NB268_270.out _; (with_reducible repeat (first | refine zzf ?_ _ | refine zzg ?_ | refine zze ?_ _)); exact BK268.out⟩
         have n10_ : Aside0 ((w54.setCell ⟨gb270, 5, none⟩ (.slice A271_5 ((rd_T34 t242 0).f5).length c271_5)).heap[gb270]? = some (.cells #[.int .i64 ((rd_T34 t264 0).f0), .int .i64 ((rd_T34 t264 0).f1), .bool ((rd_T34 t264 0).f2), .slice A269_3 ((rd_T34 t264 0).f3).length c269_3, .bool ((rd_T34 t264 0).f4), .slice A271_5 ((rd_T34 t242 0).f5).length c271_5] 34 (0, 0))) := ⟨by (with_reducible repeat (first | refine zzf ?_ _ | refine zzg ?_ | refine zze ?_ _)); refine zzi (cs := #[.int .i64 ((rd_T34 t264 0).f0), .int .i64 ((rd_T34 t264 0).f1), .bool ((rd_T34 t264 0).f2), .slice A269_3 ((rd_T34 t264 0).f3).length c269_3, .bool ((rd_T34 t264 0).f4), .slice A269_5 ((rd_T34 t264 0).f5).length c269_5]) ?_ 5 _ rfl; (with_reducible repeat (first | refine zzf ?_ _ | refine zzg ?_ | refine zze ?_ _)); exact BK270.out⟩
         have n11_ : Aside0 (Below w.heap.size w (w54.setCell ⟨gb270, 5, none⟩ (.slice A271_5 ((rd_T34 t242 0).f5).length c271_5))) := ⟨by repeat (first | (with_reducible first | exact HB.out | apply zza | apply zzb | apply zzc | refine zzd ?_ GE246.out | refine zzd ?_ GE256.out | refine zzd ?_ GE268.out | refine zzd ?_ GE270.out) | exact HB.out)⟩
         (try clear HO_247005)
         (try clear HO_257005)
         (try clear HO266)
         (try clear HL269_3)
         (try clear HL269_5)
         (try clear HL271_3)
         (try clear HL271_5)
         (try clear BK246)
         (try clear BK256)
         (try clear BK268)
         (try clear BK270)
         (try clear HB)
         generalize (w54.setCell ⟨gb270, 5, none⟩ (.slice A271_5 ((rd_T34 t242 0).f5).length c271_5)) = w58 at n0_ n1_ n2_ n3_ n4_ n5_ n6_ n7_ n8_ n9_ n10_ n11_ ⊢
         have HO_247005 := n0_
         have HO_257005 := n1_
         have HO266 := n2_
         have HL269_3 := n3_
         have HL269_5 := n4_
         have HL271_3 := n5_
         have HL271_5 := n6_
         have BK246 := n7_
         have BK256 := n8_
         have BK268 := n9_
         have BK270 := n10_
         have HB := n11_
         clear n0_ n1_ n2_ n3_ n4_ n5_ n6_ n7_ n8_ n9_ n10_ n11_
         have n0_ := zzm (Kd.N_drew HO_247005.out)
         have n1_ := zzm (Kd.N_drew HO_257005.out)
         have n2_ := zzm (Kd.N_drew HO266.out)
         have n3_ := zzm (Kd.V_drew HL269_3.out)
         have n4_ := zzm (Kd.V_drew HL269_5.out)
         have n5_ := zzm (Kd.V_drew HL271_3.out)
         have n6_ := zzm (Kd.V_drew HL271_5.out)
         have n7_ := zzm (zzg BK246.out)
         have n8_ := zzm (zzg BK256.out)
         have n9_ := zzm (zzg BK268.out)
         have n10_ := zzm (zzg BK270.out)
         have n11_ := zzm (zzc HB.out)
         clear HO_247005
         clear HO_257005
         clear HO266
         clear HL269_3
         clear HL269_5
         clear HL271_3
         clear HL271_5
         clear BK246
         clear BK256
         clear BK268
         clear BK270
         clear HB
         have HO_247005 := n0_
         have HO_257005 := n1_
         have HO266 := n2_
         have HL269_3 := n3_
         have HL269_5 := n4_
         have HL271_3 := n5_
         have HL271_5 := n6_
         have BK246 := n7_
         have BK256 := n8_
         have BK268 := n9_
         have BK270 := n10_
         have HB := n11_
         clear n0_ n1_ n2_ n3_ n4_ n5_ n6_ n7_ n8_ n9_ n10_ n11_
         refine start_ (n := 16) (S := fun w' => w'.cell? ⟨gb268, 0, none⟩ = some (.bool t259) ∧ w'.cell? ⟨gb268, 1, none⟩ = some (.bool t260) ∧ w'.cell? ⟨gb268, 2, none⟩ = some (.int .i64 t261) ∧ w'.cell? ⟨gb268, 3, none⟩ = some (.int .i64 t262) ∧ w'.cell? ⟨gb268, 4, none⟩ = some (.int .i64 t263) ∧ w'.cell? ⟨gb268, 5, none⟩ = some (.slice (some ad269) t264.length co46) ∧ w'.cell? ⟨gb246, 0, none⟩ = some (.bool t237) ∧ w'.cell? ⟨gb246, 1, none⟩ = some (.bool t238) ∧ w'.cell? ⟨gb246, 2, none⟩ = some (.int .i64 t239) ∧ w'.cell? ⟨gb246, 3, none⟩ = some (.int .i64 t240) ∧ w'.cell? ⟨gb246, 4, none⟩ = some (.int .i64 t241) ∧ w'.cell? ⟨gb246, 5, none⟩ = some (.slice (some ad271) t242.length co11)) (ds := []) #[false, false, false, false, false, false, false, false, false, false, false, false, false, false, false, false] (by kernel_rfl) rfl rfl ⟨(zzk BK268.out 0).trans rfl, (zzk BK268.out 1).trans rfl, (zzk BK268.out 2).trans rfl, (zzk BK268.out 3).trans rfl, (zzk BK268.out 4).trans rfl, (zzk BK268.out 5).trans rfl, (zzk BK246.out 0).trans rfl, (zzk BK246.out 1).trans rfl, (zzk BK246.out 2).trans rfl, (zzk BK246.out 3).trans rfl, (zzk BK246.out 4).trans rfl, (zzk BK246.out 5).trans rfl⟩ (fun hHeld => ?_); refine with_tabW laws_FnMarkBatchTwo.tab11 laws_FnMarkBatchTwo.bits11 (fun HT_ HW_ => ?_)
         generalize w58.drew = w59 at HO_247005 HO_257005 HO266 HL269_3 HL269_5 HL271_3 HL271_5 BK246 BK256 BK268 BK270 HB hHeld ⊢
         refine pure_ (i := 0) (N := some 85) (v := ?_) (a' := ?_) #[true, false, false, false, false, false, false, false, false, false, false, false, false, false, false, false] rfl rfl (any_of HT_.out (by kernel_rfl)) (fun _ _ _ h => h) (Or.inl ⟨by rfl, ?_⟩) ?_ ?_
         rotate_left
         ·
          intro w'
          go_simp
          with_reducible rfl
         rotate_left
         ·
          simp only [Act.put, zzq, zzr, zzs, i64_w, i32_w]
          rfl
         refine pure_ (i := 1) (N := some 86) (v := ?_) (a' := ?_) #[true, true, false, false, false, false, false, false, false, false, false, false, false, false, false, false] rfl rfl (any_of HT_.out (by kernel_rfl)) (fun _ _ _ h => h) (Or.inl ⟨by rfl, ?_⟩) ?_ ?_
         rotate_left
         ·
          intro w'
          go_simp
          with_reducible rfl
         rotate_left
         ·
          simp only [Act.put, zzq, zzr, zzs, i64_w, i32_w]
          rfl
         refine take_ (i := 2) (N := some 87) (v := ?_) (a' := ?_) #[true, true, true, false, false, false, false, false, false, false, false, false, false, false, false, false] rfl rfl (take_ofW HT_.out HW_.out (by kernel_rfl)) (fun _ _ _ h => h) (Or.inl ⟨by rfl, ?_⟩) hHeld ?_ ?_
         rotate_left
         ·
          rintro w' ⟨s0, s1, s2, s3, s4, s5, s6, s7, s8, s9, s10, s11⟩
          go_simp
          with_reducible rfl
         rotate_left
         ·
          simp only [Act.put, zzq, zzr, zzs, i64_w, i32_w]
          rfl
         refine take_ (i := 3) (N := some 88) (v := ?_) (a' := ?_) #[true, true, true, true, false, false, false, false, false, false, false, false, false, false, false, false] rfl rfl (take_ofW HT_.out HW_.out (by kernel_rfl)) (fun _ _ _ h => h) (Or.inl ⟨by rfl, ?_⟩) hHeld ?_ ?_
         rotate_left
         ·
          rintro w' ⟨s0, s1, s2, s3, s4, s5, s6, s7, s8, s9, s10, s11⟩
          go_simp
          with_reducible rfl
         rotate_left
         ·
          simp only [Act.put, zzq, zzr, zzs, i64_w, i32_w]
          rfl
         refine one_ (i := 4) (N := some 89) #[true, true, true, true, true, false, false, false, false, false, false, false, false, false, false, false] rfl rfl (one_of HT_.out (by kernel_rfl)) (by decide) (fun K hK => ?_)
         refine goes_ Try.func21 (by kernel_rfl) rfl #[.agg #[.bool t259, .bool t260, .int .i64 t261, .int .i64 t262, .int .i64 t263, .slice (some ad269) t264.length co46], .agg #[.bool t237, .bool t238, .int .i64 t239, .int .i64 t240, .int .i64 t241, .slice (some ad271) t242.length co11]] (by rfl) rfl rfl (by (try simp only [List.map_toArray, List.map_cons, List.map_nil]); first | done | rfl | (simp only [List.length_drop, List.length_take]; rfl)) ?_
         with_reducible refine (laws_sameBatch.calls kj5 t259 t260 t261 t262 t263 _ _ t264 t237 t238 t239 t240 t241 _ _ t242 true _ ?side1 ?side2 ?side3 ?side4 A39.out).mono ?_
         (case side1 => repeat (first | exact (Kd.N_reads' HO266.out).2.2 | (with_reducible refine Kd.C_alloc ?_ _) | (with_reducible refine Kd.C_drewN ?_ _) | (with_reducible refine Kd.C_drew ?_)))
         (case side2 => exact (Kd.N_reads' HO266.out).2.1)
         (case side3 => repeat (first | exact (Kd.N_reads' HO_247005.out).2.2 | (with_reducible refine Kd.C_alloc ?_ _) | (with_reducible refine Kd.C_drewN ?_ _) | (with_reducible refine Kd.C_drew ?_)))
         (case side4 => exact (Kd.N_reads' HO_247005.out).2.1)
         rintro e w60 ⟨rfl, hb⟩
         refine ⟨_, rfl, ?_⟩
         have n0_ := zzm (Kd.N_below (by (with_reducible repeat (first | apply Kd.N_alloc | apply Kd.N_drewN | apply Kd.N_drew)); exact HO_247005.out) hb)
         have n1_ := zzm (Kd.N_below (by (with_reducible repeat (first | apply Kd.N_alloc | apply Kd.N_drewN | apply Kd.N_drew)); exact HO_257005.out) hb)
         have n2_ := zzm (Kd.N_below (by (with_reducible repeat (first | apply Kd.N_alloc | apply Kd.N_drewN | apply Kd.N_drew)); exact HO266.out) hb)
         have n3_ := zzm (Kd.V_below (by (with_reducible repeat (first | apply Kd.V_alloc | apply Kd.V_drewN | apply Kd.V_drew)); exact HL269_3.out) hb)
         have n4_ := zzm (Kd.V_below (by (with_reducible repeat (first | apply Kd.V_alloc | apply Kd.V_drewN | apply Kd.V_drew)); exact HL269_5.out) hb)
         have n5_ := zzm (Kd.V_below (by (with_reducible repeat (first | apply Kd.V_alloc | apply Kd.V_drewN | apply Kd.V_drew)); exact HL271_3.out) hb)
         have n6_ := zzm (Kd.V_below (by (with_reducible repeat (first | apply Kd.V_alloc | apply Kd.V_drewN | apply Kd.V_drew)); exact HL271_5.out) hb)
         have n7_ := zzm (zzh (g := gb246) (o := .cells #[.bool t237, .bool t238, .int .i64 t239, .int .i64 t240, .int .i64 t241, .slice (some ad271) t242.length co11] 27 (0, 0)) (by (with_reducible repeat (first | refine zzf ?_ _ | refine zzg ?_ | refine zze ?_ _)); exact BK246.out) hb)
         have n8_ := zzm (zzh (g := gb256) (o := .cells #[.bool t247, .bool t248, .int .i64 t249, .int .i64 t250, .int .i64 t251, .slice Ao16 t252.length co16] 27 (0, 0)) (by (with_reducible repeat (first | refine zzf ?_ _ | refine zzg ?_ | refine zze ?_ _)); exact BK256.out) hb)
         have n9_ := zzm (zzh (g := gb268) (o := .cells #[.bool t259, .bool t260, .int .i64 t261, .int .i64 t262, .int .i64 t263, .slice (some ad269) t264.length co46] 27 (0, 0)) (by (with_reducible repeat (first | refine zzf ?_ _ | refine zzg ?_ | refine zze ?_ _)); exact BK268.out) hb)
         have n10_ := zzm (zzh (g := gb270) (o := .cells #[.int .i64 ((rd_T34 t264 0).f0), .int .i64 ((rd_T34 t264 0).f1), .bool ((rd_T34 t264 0).f2), .slice A269_3 ((rd_T34 t264 0).f3).length c269_3, .bool ((rd_T34 t264 0).f4), .slice A271_5 ((rd_T34 t242 0).f5).length c271_5] 34 (0, 0)) (by (with_reducible repeat (first | refine zzf ?_ _ | refine zzg ?_ | refine zze ?_ _)); exact BK270.out) hb)
         have n11_ := zzm (zzp (by repeat (first | (with_reducible first | exact HB.out | apply zza | apply zzb | apply zzc | refine zzd ?_ GE246.out | refine zzd ?_ GE256.out | refine zzd ?_ GE268.out | refine zzd ?_ GE270.out) | exact HB.out)) hb)
         clear HO_247005
         clear HO_257005
         clear HO266
         clear HL269_3
         clear HL269_5
         clear HL271_3
         clear HL271_5
         clear BK246
         clear BK256
         clear BK268
         clear BK270
         clear HB
         have HO_247005 := n0_
         have HO_257005 := n1_
         have HO266 := n2_
         have HL269_3 := n3_
         have HL269_5 := n4_
         have HL271_3 := n5_
         have HL271_5 := n6_
         have BK246 := n7_
         have BK256 := n8_
         have BK268 := n9_
         have BK270 := n10_
         have HB := n11_
         clear n0_ n1_ n2_ n3_ n4_ n5_ n6_ n7_ n8_ n9_ n10_ n11_
         (try clear hb)
         (try clear hb2)
         (try clear hk)
         (try clear hi)
         refine hK.out _ _ ⟨(zzk BK268.out 0).trans rfl, (zzk BK268.out 1).trans rfl, (zzk BK268.out 2).trans rfl, (zzk BK268.out 3).trans rfl, (zzk BK268.out 4).trans rfl, (zzk BK268.out 5).trans rfl, (zzk BK246.out 0).trans rfl, (zzk BK246.out 1).trans rfl, (zzk BK246.out 2).trans rfl, (zzk BK246.out 3).trans rfl, (zzk BK246.out 4).trans rfl, (zzk BK246.out 5).trans rfl⟩ (fun hHeld => ?_)
         clear hK K
         refine norm_ (a' := ?_) ?_ ?_
         rotate_left
         ·
          show Act.put _ (some 89) _ = _
          simp only [Act.put, zzq, zzr, zzs, i64_w, i32_w]
          rfl
         refine pure_ (i := 5) (N := some 90) (v := ?_) (a' := ?_) #[true, true, true, true, true, true, false, false, false, false, false, false, false, false, false, false] rfl rfl (any_of HT_.out (by kernel_rfl)) (fun _ _ _ h => h) (Or.inl ⟨by rfl, ?_⟩) ?_ ?_
         rotate_left
         ·
          intro w'
          go_simp
          with_reducible rfl
         rotate_left
         ·
          simp only [Act.put, zzq, zzr, zzs, i64_w, i32_w]
          rfl
         refine pure_ (i := 6) (N := some 91) (v := ?_) (a' := ?_) #[true, true, true, true, true, true, true, false, false, false, false, false, false, false, false, false] rfl rfl (any_of HT_.out (by kernel_rfl)) (fun _ _ _ h => h) (Or.inl ⟨by rfl, ?_⟩) ?_ ?_
         rotate_left
         ·
          intro w'
          go_simp
          with_reducible rfl
         rotate_left
         ·
          simp only [Act.put, zzq, zzr, zzs, i64_w, i32_w]
          rfl
         refine pure_ (i := 7) (N := some 92) (v := ?_) (a' := ?_) #[true, true, true, true, true, true, true, true, false, false, false, false, false, false, false, false] rfl rfl (any_of HT_.out (by kernel_rfl)) (fun _ _ _ h => h) (Or.inl ⟨by rfl, ?_⟩) ?_ ?_
         rotate_left
         ·
          intro w'
          go_simp
          with_reducible rfl
         rotate_left
         ·
          simp only [Act.put, zzq, zzr, zzs, i64_w, i32_w]
          rfl
         refine pure_ (i := 8) (N := some 93) (v := undef) (a' := ?_) #[true, true, true, true, true, true, true, true, true, false, false, false, false, false, false, false] rfl rfl (any_of HT_.out (by kernel_rfl)) (fun _ _ _ h => h) (Or.inr ⟨by rfl, rfl⟩) ?_ ?_
         rotate_left
         ·
          simp only [Act.put, zzq, zzr, zzs, i64_w, i32_w]
          rfl
         refine pure_ (i := 9) (N := some 94) (v := undef) (a' := ?_) #[true, true, true, true, true, true, true, true, true, true, false, false, false, false, false, false] rfl rfl (any_of HT_.out (by kernel_rfl)) (fun _ _ _ h => h) (Or.inr ⟨by rfl, rfl⟩) ?_ ?_
         rotate_left
         ·
          simp only [Act.put, zzq, zzr, zzs, i64_w, i32_w]
          rfl
         refine pure_ (i := 10) (N := some 95) (v := undef) (a' := ?_) #[true, true, true, true, true, true, true, true, true, true, true, false, false, false, false, false] rfl rfl (any_of HT_.out (by kernel_rfl)) (fun _ _ _ h => h) (Or.inr ⟨by rfl, rfl⟩) ?_ ?_
         rotate_left
         ·
          simp only [Act.put, zzq, zzr, zzs, i64_w, i32_w]
          rfl
         refine pure_ (i := 11) (N := some 96) (v := undef) (a' := ?_) #[true, true, true, true, true, true, true, true, true, true, true, true, false, false, false, false] rfl rfl (any_of HT_.out (by kernel_rfl)) (fun _ _ _ h => h) (Or.inr ⟨by rfl, rfl⟩) ?_ ?_
         rotate_left
         ·
          simp only [Act.put, zzq, zzr, zzs, i64_w, i32_w]
          rfl
         refine pure_ (i := 12) (N := some 97) (v := undef) (a' := ?_) #[true, true, true, true, true, true, true, true, true, true, true, true, true, false, false, false] rfl rfl (any_of HT_.out (by kernel_rfl)) (fun _ _ _ h => h) (Or.inr ⟨by rfl, rfl⟩) ?_ ?_
         rotate_left
         ·
          simp only [Act.put, zzq, zzr, zzs, i64_w, i32_w]
          rfl
         refine pure_ (i := 13) (N := some 98) (v := undef) (a' := ?_) #[true, true, true, true, true, true, true, true, true, true, true, true, true, true, false, false] rfl rfl (any_of HT_.out (by kernel_rfl)) (fun _ _ _ h => h) (Or.inr ⟨by rfl, rfl⟩) ?_ ?_
         rotate_left
         ·
          simp only [Act.put, zzq, zzr, zzs, i64_w, i32_w]
          rfl
         refine pure_ (i := 14) (N := some 99) (v := ?_) (a' := ?_) #[true, true, true, true, true, true, true, true, true, true, true, true, true, true, true, false] rfl rfl (any_of HT_.out (by kernel_rfl)) (fun _ _ _ h => h) (Or.inl ⟨by rfl, ?_⟩) ?_ ?_
         rotate_left
         ·
          intro w'
          go_simp
          with_reducible rfl
         rotate_left
         ·
          simp only [Act.put, zzq, zzr, zzs, i64_w, i32_w]
          rfl
         refine pure_ (i := 15) (N := some 2) (v := ?_) (a' := ?_) #[true, true, true, true, true, true, true, true, true, true, true, true, true, true, true, true] rfl rfl (any_of HT_.out (by kernel_rfl)) (fun _ _ _ h => h) (Or.inl ⟨by rfl, ?_⟩) ?_ ?_
         rotate_left
         ·
          intro w'
          go_simp
          with_reducible rfl
         rotate_left
         ·
          simp only [Act.put, zzq, zzr, zzs, i64_w, i32_w]
          rfl
         refine done_ (done_of HT_.out (by kernel_rfl)) ?_
         try go_wp2
         go_ret
         exact ⟨by first | rfl | (simp [errW_none, errW_some] <;> rfl) | (simp [*, errW_none, errW_some] <;> rfl), by repeat (first | (with_reducible first | exact HB.out | apply zza | apply zzb | apply zzc | refine zzd ?_ GE246.out | refine zzd ?_ GE256.out | refine zzd ?_ GE268.out | refine zzd ?_ GE270.out) | exact HB.out)⟩
        ·
         replace c40 := Bool.eq_false_iff.mpr c40
         subst c40
         have H1 : ((laws_sameRecord.f kj5 ((rd_T34 t264 0).f0) ((rd_T34 t264 0).f1) ((rd_T34 t264 0).f2) ((rd_T34 t264 0).f3) ((rd_T34 t264 0).f4) ((rd_T34 t242 0).f5) ((rd_T34 t242 0).f0) ((rd_T34 t242 0).f1) ((rd_T34 t242 0).f2) ((rd_T34 t242 0).f3) ((rd_T34 t242 0).f4) ((rd_T34 t242 0).f5)).bind fun t274 => (some t274)) = some r := by rw [if_neg (show ¬ (false = true) by decide)] at H; exact H
         clear H
         have H := H1
         clear H1
         replace H := Option.bind_eq_some_iff.mp H
         obtain ⟨t274, A610, H⟩ := H
         replace H : (some t274) = some r := H
         have A61 := zzm A610
         clear A610
         obtain rfl := Option.some.inj H
         try go_wp2_with (first | ((with_reducible refine gate_callee (f := 19) rfl ?_); refine goesL_ (some 72) rfl rfl Try.func19 (by kernel_rfl) rfl #[.int .i64 t232, .int .i64 t233, .int .i64 t234, .int .i64 t235, .bool (!t236)] rfl (by (try simp only [List.map_toArray, List.map_cons, List.map_nil]); first | done | rfl | (simp only [List.length_drop, List.length_take]; rfl)) ?_; (with_reducible refine (impl_MarkBatch.calls kj5 t232 t233 t234 t235 (!t236) t259 t260 t261 t262 t263 t264 true _ A35.out).mono ?_); rintro e w62 ⟨v265, rfl, ho0, hb⟩; refine ⟨_, rfl, ?_⟩; have n0_ := zzm (Kd.N_elder' (by (with_reducible repeat (first | apply Kd.N_alloc | apply Kd.N_drewN | apply Kd.N_drew)); exact HO_247005.out) (Kd.N_base ho0) hb); have n1_ := zzm (Kd.N_elder' (by (with_reducible repeat (first | apply Kd.N_alloc | apply Kd.N_drewN | apply Kd.N_drew)); exact HO_257005.out) (Kd.N_base ho0) hb); have n2_ := zzm (Kd.N_lower (Kd.N_mono (ok' := fun k_ => some k_ ≠ (.slice Ao11 t242.length co11 : Value).ownBlock ∧ some k_ ≠ (.slice Ao16 t252.length co16 : Value).ownBlock ∧ k_ ≠ gb246 ∧ k_ ≠ gb256) ho0 (fun k_ hk_ => ⟨(Kd.fresh' (Kd.N_lt (by (with_reducible repeat (first | apply Kd.N_alloc | apply Kd.N_drewN | apply Kd.N_drew)); exact HO_247005.out)) k_ hk_), (Kd.fresh' (Kd.N_lt (by (with_reducible repeat (first | apply Kd.N_alloc | apply Kd.N_drewN | apply Kd.N_drew)); exact HO_257005.out)) k_ hk_), (Kd.freshB (g := gb246) (o := .cells #[.bool t237, .bool t238, .int .i64 t239, .int .i64 t240, .int .i64 t241, .slice Ao11 t242.length co11] 27 (0, 0)) (by (with_reducible repeat (first | refine zzf ?_ _ | refine zzg ?_ | refine zze ?_ _)); exact BK246.out) k_ hk_), (Kd.freshB (g := gb256) (o := .cells #[.bool t247, .bool t248, .int .i64 t249, .int .i64 t250, .int .i64 t251, .slice Ao16 t252.length co16] 27 (0, 0)) (by (with_reducible repeat (first | refine zzf ?_ _ | refine zzg ?_ | refine zze ?_ _)); exact BK256.out) k_ hk_)⟩)) (zzo (by repeat (first | (with_reducible first | exact HB.out | apply zza | apply zzb | apply zzc | refine zzd ?_ GE246.out | refine zzd ?_ GE256.out) | exact HB.out)))); have n3_ := zzm (zzh (g := gb246) (o := .cells #[.bool t237, .bool t238, .int .i64 t239, .int .i64 t240, .int .i64 t241, .slice Ao11 t242.length co11] 27 (0, 0)) (by (with_reducible repeat (first | refine zzf ?_ _ | refine zzg ?_ | refine zze ?_ _)); exact BK246.out) hb); have n4_ := zzm (zzh (g := gb256) (o := .cells #[.bool t247, .bool t248, .int .i64 t249, .int .i64 t250, .int .i64 t251, .slice Ao16 t252.length co16] 27 (0, 0)) (by (with_reducible repeat (first | refine zzf ?_ _ | refine zzg ?_ | refine zze ?_ _)); exact BK256.out) hb); have n5_ := zzm (zzp (by repeat (first | (with_reducible first | exact HB.out | apply zza | apply zzb | apply zzc | refine zzd ?_ GE246.out | refine zzd ?_ GE256.out) | exact HB.out)) hb); clear HO_247005 HO_257005 BK246 BK256 HB; have HO_247005 := n0_; have HO_257005 := n1_; have HO266 := n2_; have BK246 := n3_; have BK256 := n4_; have HB := n5_; clear n0_ n1_ n2_ n3_ n4_ n5_; (try clear hb); (try clear hb2); (try clear hk); (try clear hi); (try clear ho0)) | ((with_reducible refine gate_dst (N := 12) rfl ?_); refine box_event ?hg (N := 12) ?hd (cs := #[.bool false, .bool false, .int .i64 0, .int .i64 0, .int .i64 0, .slice none 0 0]) (t := 27) ?hr ?_; (case hd => rfl); (case hg => rfl); (case hr => first | (go_simp; done) | (go_simp; rfl)); intro gb268 hg w63 hbox hb; have n0_ := zzm (Kd.N_below (Kd.N_elderB (by (with_reducible repeat (first | apply Kd.N_alloc | apply Kd.N_drewN | apply Kd.N_drew)); exact HO_247005.out) gb268 (Nat.le_of_eq hg.symm)) hb); have n1_ := zzm (Kd.N_below (Kd.N_elderB (by (with_reducible repeat (first | apply Kd.N_alloc | apply Kd.N_drewN | apply Kd.N_drew)); exact HO_257005.out) gb268 (Nat.le_of_eq hg.symm)) hb); have n2_ := zzm (Kd.N_below (Kd.N_elderB (by (with_reducible repeat (first | apply Kd.N_alloc | apply Kd.N_drewN | apply Kd.N_drew)); exact HO266.out) gb268 (Nat.le_of_eq hg.symm)) hb); have n3_ := zzm (zzh (g := gb246) (o := .cells #[.bool t237, .bool t238, .int .i64 t239, .int .i64 t240, .int .i64 t241, .slice Ao11 t242.length co11] 27 (0, 0)) (by (with_reducible repeat (first | refine zzf ?_ _ | refine zzg ?_ | refine zze ?_ _)); exact BK246.out) hb); have n4_ := zzm (zzh (g := gb256) (o := .cells #[.bool t247, .bool t248, .int .i64 t249, .int .i64 t250, .int .i64 t251, .slice Ao16 t252.length co16] 27 (0, 0)) (by (with_reducible repeat (first | refine zzf ?_ _ | refine zzg ?_ | refine zze ?_ _)); exact BK256.out) hb); have n5_ := zzm (zzp (by repeat (first | (with_reducible first | exact HB.out | apply zza | apply zzb | apply zzc | refine zzd ?_ GE246.out | refine zzd ?_ GE256.out) | exact HB.out)) hb); have n6_ := zzm (hbox); have n7_ := zzm ((by rw [hg]; exact (zzo (by repeat (first | (with_reducible first | exact HB.out | apply zza | apply zzb | apply zzc | refine zzd ?_ GE246.out | refine zzd ?_ GE256.out) | exact HB.out))) : w.heap.size ≤ gb268)); have n8_ := zzm ((by rw [hg]; exact (zzo (by repeat (first | (with_reducible first | exact HB.out | apply zza | apply zzb | apply zzc | refine zzd ?_ GE246.out | refine zzd ?_ GE256.out) | exact HB.out))) : w.heap.size ≤ gb268)); have n9_ := zzm ((by rw [hg]; exact Nat.ne_of_lt (blk_lt (g := gb246) (o := .cells #[.bool t237, .bool t238, .int .i64 t239, .int .i64 t240, .int .i64 t241, .slice Ao11 t242.length co11] 27 (0, 0)) (by (with_reducible repeat (first | refine zzf ?_ _ | refine zzg ?_ | refine zze ?_ _)); exact BK246.out)) : gb246 ≠ gb268)); have n10_ := zzm ((by rw [hg]; exact Nat.ne_of_gt (blk_lt (g := gb246) (o := .cells #[.bool t237, .bool t238, .int .i64 t239, .int .i64 t240, .int .i64 t241, .slice Ao11 t242.length co11] 27 (0, 0)) (by (with_reducible repeat (first | refine zzf ?_ _ | refine zzg ?_ | refine zze ?_ _)); exact BK246.out)) : gb268 ≠ gb246)); have n11_ := zzm ((by rw [hg]; exact Nat.ne_of_lt (blk_lt (g := gb256) (o := .cells #[.bool t247, .bool t248, .int .i64 t249, .int .i64 t250, .int .i64 t251, .slice Ao16 t252.length co16] 27 (0, 0)) (by (with_reducible repeat (first | refine zzf ?_ _ | refine zzg ?_ | refine zze ?_ _)); exact BK256.out)) : gb256 ≠ gb268)); have n12_ := zzm ((by rw [hg]; exact Nat.ne_of_gt (blk_lt (g := gb256) (o := .cells #[.bool t247, .bool t248, .int .i64 t249, .int .i64 t250, .int .i64 t251, .slice Ao16 t252.length co16] 27 (0, 0)) (by (with_reducible repeat (first | refine zzf ?_ _ | refine zzg ?_ | refine zze ?_ _)); exact BK256.out)) : gb268 ≠ gb256)); clear HO_247005 HO_257005 HO266 BK246 BK256 HB; have HO_247005 := n0_; have HO_257005 := n1_; have HO266 := n2_; have BK246 := n3_; have BK256 := n4_; have HB := n5_; have BK268 := n6_; have GW268 := n7_; have GE268 := n8_; have NB246_268 := n9_; have NB268_246 := n10_; have NB256_268 := n11_; have NB268_256 := n12_; clear n0_ n1_ n2_ n3_ n4_ n5_ n6_ n7_ n8_ n9_ n10_ n11_ n12_ hb hbox hg; have hnb64 := NB268_246.out; have hnc64 := NB246_268.out; have hnb65 := NB268_256.out; have hnc65 := NB256_268.out; obtain ⟨hcz66_0, hcz66_1, hcz66_2, hcz66_3, hcz66_4, hcz66_5, hfz66_0, hfz66_1, hfz66_2, hfz66_3, hfz66_4, hfz66_5⟩ := zzc6 BK268.out; obtain ⟨Ao67, co67, eo67⟩ := Kd.N_slice HO266.out; subst eo67) | ((with_reducible refine gate_store (t := 27) (p := 12) rfl ?_); refine store_event (t := 27) (p := 12) (v := ?vo_w68) (w1 := ((((((w63.setCell ⟨gb268, 0, none⟩ (.bool t259)).setCell ⟨gb268, 1, none⟩ (.bool t260)).setCell ⟨gb268, 2, none⟩ (.int .i64 t261)).setCell ⟨gb268, 3, none⟩ (.int .i64 t262)).setCell ⟨gb268, 4, none⟩ (.int .i64 t263)).setCell ⟨gb268, 5, none⟩ (.slice Ao67 t264.length co67))) ?hg ?ho ?hn ?hr ?_; (case ho => rfl); (case hg => rfl); (case hn => rfl); (case hr => first | (go_simp; done) | (go_simp; rfl)); intro w68 hw; have n0_ : Aside0 (Kd.N k34 34 w68 w.heap.size (fun k_ => some k_ ≠ (.slice Ao16 t252.length co16 : Value).ownBlock ∧ some k_ ≠ (.slice Ao67 t264.length co67 : Value).ownBlock ∧ k_ ≠ gb246 ∧ k_ ≠ gb256 ∧ k_ ≠ gb268) (.slice Ao11 t242.length co11) t242) := ⟨(by rw [hw]; exact (by (with_reducible repeat (first | apply Kd.N_alloc | apply Kd.N_drewN | apply Kd.N_drew)); exact Kd.N_mono (Kd.N_far (p := ⟨gb268, 5, none⟩) (Kd.N_far (p := ⟨gb268, 4, none⟩) (Kd.N_far (p := ⟨gb268, 3, none⟩) (Kd.N_far (p := ⟨gb268, 2, none⟩) (Kd.N_far (p := ⟨gb268, 1, none⟩) (Kd.N_far (p := ⟨gb268, 0, none⟩) (Kd.N_mono HO_247005.out (fun k_ hk => (⟨hk, hk.2⟩ : _ ∧ k_ ≠ gb268))) (fun _ hk => hk.2) (.bool t259)) (fun _ hk => hk.2) (.bool t260)) (fun _ hk => hk.2) (.int .i64 t261)) (fun _ hk => hk.2) (.int .i64 t262)) (fun _ hk => hk.2) (.int .i64 t263)) (fun _ hk => hk.2) (.slice Ao67 t264.length co67)) (fun _ hk => ⟨hk.1.1.1.1, ⟨hk.1.1.2, ⟨hk.1.1.1.2.1, ⟨hk.1.1.1.2.2, hk.1.2⟩⟩⟩⟩)))⟩; have n1_ : Aside0 (Kd.N k34 34 w68 w.heap.size (fun k_ => some k_ ≠ (.slice Ao11 t242.length co11 : Value).ownBlock ∧ some k_ ≠ (.slice Ao67 t264.length co67 : Value).ownBlock ∧ k_ ≠ gb246 ∧ k_ ≠ gb256 ∧ k_ ≠ gb268) (.slice Ao16 t252.length co16) t252) := ⟨(by rw [hw]; exact (by (with_reducible repeat (first | apply Kd.N_alloc | apply Kd.N_drewN | apply Kd.N_drew)); exact Kd.N_mono (Kd.N_far (p := ⟨gb268, 5, none⟩) (Kd.N_far (p := ⟨gb268, 4, none⟩) (Kd.N_far (p := ⟨gb268, 3, none⟩) (Kd.N_far (p := ⟨gb268, 2, none⟩) (Kd.N_far (p := ⟨gb268, 1, none⟩) (Kd.N_far (p := ⟨gb268, 0, none⟩) (Kd.N_mono HO_257005.out (fun k_ hk => (⟨hk, hk.2⟩ : _ ∧ k_ ≠ gb268))) (fun _ hk => hk.2) (.bool t259)) (fun _ hk => hk.2) (.bool t260)) (fun _ hk => hk.2) (.int .i64 t261)) (fun _ hk => hk.2) (.int .i64 t262)) (fun _ hk => hk.2) (.int .i64 t263)) (fun _ hk => hk.2) (.slice Ao67 t264.length co67)) (fun _ hk => ⟨hk.1.1.1.1, ⟨hk.1.1.2, ⟨hk.1.1.1.2.1, ⟨hk.1.1.1.2.2, hk.1.2⟩⟩⟩⟩)))⟩; have n2_ : Aside0 (Kd.N k34 34 w68 w.heap.size (fun k_ => some k_ ≠ (.slice Ao11 t242.length co11 : Value).ownBlock ∧ some k_ ≠ (.slice Ao16 t252.length co16 : Value).ownBlock ∧ k_ ≠ gb246 ∧ k_ ≠ gb256 ∧ k_ ≠ gb268) (.slice Ao67 t264.length co67) t264) := ⟨(by rw [hw]; exact (by (with_reducible repeat (first | apply Kd.N_alloc | apply Kd.N_drewN | apply Kd.N_drew)); exact Kd.N_mono (Kd.N_far (p := ⟨gb268, 5, none⟩) (Kd.N_far (p := ⟨gb268, 4, none⟩) (Kd.N_far (p := ⟨gb268, 3, none⟩) (Kd.N_far (p := ⟨gb268, 2, none⟩) (Kd.N_far (p := ⟨gb268, 1, none⟩) (Kd.N_far (p := ⟨gb268, 0, none⟩) (Kd.N_mono HO266.out (fun k_ hk => (⟨hk, hk.2⟩ : _ ∧ k_ ≠ gb268))) (fun _ hk => hk.2) (.bool t259)) (fun _ hk => hk.2) (.bool t260)) (fun _ hk => hk.2) (.int .i64 t261)) (fun _ hk => hk.2) (.int .i64 t262)) (fun _ hk => hk.2) (.int .i64 t263)) (fun _ hk => hk.2) (.slice Ao67 t264.length co67)) (fun _ hk => ⟨hk.1.1.1, ⟨hk.1.1.2.1, ⟨hk.1.1.2.2.1, ⟨hk.1.1.2.2.2, hk.1.2⟩⟩⟩⟩)))⟩; have n3_ : Aside0 (w68.heap[gb246]? = some (.cells #[.bool t237, .bool t238, .int .i64 t239, .int .i64 t240, .int .i64 t241, .slice Ao11 t242.length co11] 27 (0, 0))) := ⟨(by rw [hw]; exact (by (with_reducible repeat (first | refine zzf ?_ _ | refine zzg ?_ | refine zze ?_ _)); refine zzj ?_ NB246_268.out _; (with_reducible repeat (first | refine zzf ?_ _ | refine zzg ?_ | refine zze ?_ _)); refine zzj ?_ NB246_268.out _; (with_reducible repeat (first | refine zzf ?_ _ | refine zzg ?_ | refine zze ?_ _)); refine zzj ?_ NB246_268.out _; (with_reducible repeat (first | refine zzf ?_ _ | refine zzg ?_ | refine zze ?_ _)); refine zzj ?_ NB246_268.out _; (with_reducible repeat (first | refine zzf ?_ _ | refine zzg ?_ | refine zze ?_ _)); refine zzj ?_ NB246_268.out _; (with_reducible repeat (first | refine zzf ?_ _ | refine zzg ?_ | refine zze ?_ _)); refine zzj ?_ NB246_268.out _; (with_reducible repeat (first | refine zzf ?_ _ | refine zzg ?_ | refine zze ?_ _)); exact BK246.out))⟩; have n4_ : Aside0 (w68.heap[gb256]? = some (.cells #[.bool t247, .bool t248, .int .i64 t249, .int .i64 t250, .int .i64 t251, .slice Ao16 t252.length co16] 27 (0, 0))) := ⟨(by rw [hw]; exact (by (with_reducible repeat (first | refine zzf ?_ _ | refine zzg ?_ | refine zze ?_ _)); refine zzj ?_ NB256_268.out _; (with_reducible repeat (first | refine zzf ?_ _ | refine zzg ?_ | refine zze ?_ _)); refine zzj ?_ NB256_268.out _; (with_reducible repeat (first | refine zzf ?_ _ | refine zzg ?_ | refine zze ?_ _)); refine zzj ?_ NB256_268.out _; (with_reducible repeat (first | refine zzf ?_ _ | refine zzg ?_ | refine zze ?_ _)); refine zzj ?_ NB256_268.out _; (with_reducible repeat (first | refine zzf ?_ _ | refine zzg ?_ | refine zze ?_ _)); refine zzj ?_ NB256_268.out _; (with_reducible repeat (first | refine zzf ?_ _ | refine zzg ?_ | refine zze ?_ _)); refine zzj ?_ NB256_268.out _; (with_reducible repeat (first | refine zzf ?_ _ | refine zzg ?_ | refine zze ?_ _)); exact BK256.out))⟩; have n5_ : Aside0 (w68.heap[gb268]? = some (.cells #[.bool t259, .bool t260, .int .i64 t261, .int .i64 t262, .int .i64 t263, .slice Ao67 t264.length co67] 27 (0, 0))) := ⟨(by rw [hw]; exact (by (with_reducible repeat (first | refine zzf ?_ _ | refine zzg ?_ | refine zze ?_ _)); refine zzi (cs := #[.bool t259, .bool t260, .int .i64 t261, .int .i64 t262, .int .i64 t263, .slice none 0 0]) ?_ 5 _ rfl; (with_reducible repeat (first | refine zzf ?_ _ | refine zzg ?_ | refine zze ?_ _)); refine zzi (cs := #[.bool t259, .bool t260, .int .i64 t261, .int .i64 t262, .int .i64 0, .slice none 0 0]) ?_ 4 _ rfl; (with_reducible repeat (first | refine zzf ?_ _ | refine zzg ?_ | refine zze ?_ _)); refine zzi (cs := #[.bool t259, .bool t260, .int .i64 t261, .int .i64 0, .int .i64 0, .slice none 0 0]) ?_ 3 _ rfl; (with_reducible repeat (first | refine zzf ?_ _ | refine zzg ?_ | refine zze ?_ _)); refine zzi (cs := #[.bool t259, .bool t260, .int .i64 0, .int .i64 0, .int .i64 0, .slice none 0 0]) ?_ 2 _ rfl; (with_reducible repeat (first | refine zzf ?_ _ | refine zzg ?_ | refine zze ?_ _)); refine zzi (cs := #[.bool t259, .bool false, .int .i64 0, .int .i64 0, .int .i64 0, .slice none 0 0]) ?_ 1 _ rfl; (with_reducible repeat (first | refine zzf ?_ _ | refine zzg ?_ | refine zze ?_ _)); refine zzi (cs := #[.bool false, .bool false, .int .i64 0, .int .i64 0, .int .i64 0, .slice none 0 0]) ?_ 0 _ rfl; (with_reducible repeat (first | refine zzf ?_ _ | refine zzg ?_ | refine zze ?_ _)); exact BK268.out))⟩; have n6_ : Aside0 (Below w.heap.size w w68) := ⟨(by rw [hw]; exact (by repeat (first | (with_reducible first | exact HB.out | apply zza | apply zzb | apply zzc | refine zzd ?_ GE246.out | refine zzd ?_ GE256.out | refine zzd ?_ GE268.out) | exact HB.out)))⟩; clear hw HO_247005 HO_257005 HO266 BK246 BK256 BK268 HB; have HO_247005 := n0_; have HO_257005 := n1_; have HO266 := n2_; have BK246 := n3_; have BK256 := n4_; have BK268 := n5_; have HB := n6_; clear n0_ n1_ n2_ n3_ n4_ n5_ n6_; obtain ⟨hcz69_0, hcz69_1, hcz69_2, hcz69_3, hcz69_4, hcz69_5, hfz69_0, hfz69_1, hfz69_2, hfz69_3, hfz69_4, hfz69_5⟩ := zzc6 BK268.out; have p269 : 0 ≤ (0 : Int) := (by omega); have q269 : 0 < (t264.length : Int) := of_decide_eq_true (by first | (with_reducible assumption) | assumption); obtain ⟨ad269, A269_3, c269_3, A269_5, c269_5, e269, hx269_0, hx269_1, hx269_2, hx269_3, hx269_4, hx269_5, hl269_3, hi269_3, hl269_5, hi269_5⟩ := at_T34 (Kd.N_reads' HO266.out).2.2 0 p269 q269; cases e269; obtain ⟨ce269, hce269, hMe269, hcc269⟩ := Kd.N_get HO266.out z34 0 p269 (by first | exact q269 | exact of_decide_eq_true (by first | (with_reducible assumption) | assumption) | (have e_ := (Kd.N_reads' HO266.out).1; omega)); obtain ⟨ua269_3, uc269_3, ua269_5, uc269_5, rfl, ul269_3, ge269_3, ul269_5, ge269_5⟩ := k34_openF hMe269; have hv269_3 := hcc269 3 _ rfl; rw [add_field _ _ 3 (by omega)] at hv269_3; replace hv269_3 := Option.some.inj (hv269_3.symm.trans hx269_3); injection hv269_3 with hva_ hvn_ hvc_; rw [hva_] at ge269_3; rw [hvc_] at ul269_3; have HL269_3 := zzm (show Kd.V (Kd.int .i64) 3 _ w.heap.size _ _ ((rd_T34 t264 0).f3) from Kd.V_mk ul269_3 ge269_3); clear hva_ hvn_ hvc_ ge269_3 ul269_3; have hv269_5 := hcc269 5 _ rfl; rw [add_field _ _ 5 (by omega)] at hv269_5; replace hv269_5 := Option.some.inj (hv269_5.symm.trans hx269_5); injection hv269_5 with hva_ hvn_ hvc_; rw [hva_] at ge269_5; rw [hvc_] at ul269_5; have HL269_5 := zzm (show Kd.V (Kd.int .i64) 3 _ w.heap.size _ _ ((rd_T34 t264 0).f5) from Kd.V_mk ul269_5 ge269_5); clear hva_ hvn_ hvc_ ge269_5 ul269_5 hcc269 hce269; have qi269 : (0 < t264.length) = True := eq_true (by omega); (try rw [show ((0 : Int)).toNat = 0 from rfl] at hx269_0); (try rw [show 0 * 6 = 0 from rfl] at hx269_0); (try rw [Addr.add_zero'] at hx269_0); (try rw [show ((0 : Int)).toNat = 0 from rfl] at hx269_1); (try rw [show 0 * 6 = 0 from rfl] at hx269_1); (try rw [Addr.add_zero'] at hx269_1); (try rw [show ((0 : Int)).toNat = 0 from rfl] at hx269_2); (try rw [show 0 * 6 = 0 from rfl] at hx269_2); (try rw [Addr.add_zero'] at hx269_2); (try rw [show ((0 : Int)).toNat = 0 from rfl] at hx269_3); (try rw [show 0 * 6 = 0 from rfl] at hx269_3); (try rw [Addr.add_zero'] at hx269_3); (try rw [show ((0 : Int)).toNat = 0 from rfl] at hx269_4); (try rw [show 0 * 6 = 0 from rfl] at hx269_4); (try rw [Addr.add_zero'] at hx269_4); (try rw [show ((0 : Int)).toNat = 0 from rfl] at hx269_5); (try rw [show 0 * 6 = 0 from rfl] at hx269_5); (try rw [Addr.add_zero'] at hx269_5); have HR269_3 := zzm hi269_3; have HC269_3 := zzm hl269_3; clear hi269_3 hl269_3; have HR269_5 := zzm hi269_5; have HC269_5 := zzm hl269_5; clear hi269_5 hl269_5; replace p269 := eq_true p269; replace q269 := eq_true q269) | ((with_reducible refine gate_dst (N := 14) rfl ?_); refine box_event ?hg (N := 14) ?hd (cs := #[.int .i64 0, .int .i64 0, .bool false, .slice none 0 0, .bool false, .slice none 0 0]) (t := 34) ?hr ?_; (case hd => rfl); (case hg => rfl); (case hr => first | (go_simp; done) | (go_simp; rfl)); intro gb270 hg w70 hbox hb; have n0_ := zzm (Kd.N_below (Kd.N_elderB (by (with_reducible repeat (first | apply Kd.N_alloc | apply Kd.N_drewN | apply Kd.N_drew)); exact HO_247005.out) gb270 (Nat.le_of_eq hg.symm)) hb); have n1_ := zzm (Kd.N_below (Kd.N_elderB (by (with_reducible repeat (first | apply Kd.N_alloc | apply Kd.N_drewN | apply Kd.N_drew)); exact HO_257005.out) gb270 (Nat.le_of_eq hg.symm)) hb); have n2_ := zzm (Kd.N_below (Kd.N_elderB (by (with_reducible repeat (first | apply Kd.N_alloc | apply Kd.N_drewN | apply Kd.N_drew)); exact HO266.out) gb270 (Nat.le_of_eq hg.symm)) hb); have n3_ := zzm (Kd.V_below (Kd.V_elderB (by (with_reducible repeat (first | apply Kd.V_alloc | apply Kd.V_drewN | apply Kd.V_drew)); exact HL269_3.out) gb270 (Nat.le_of_eq hg.symm)) hb); have n4_ := zzm (Kd.V_below (Kd.V_elderB (by (with_reducible repeat (first | apply Kd.V_alloc | apply Kd.V_drewN | apply Kd.V_drew)); exact HL269_5.out) gb270 (Nat.le_of_eq hg.symm)) hb); have n5_ := zzm (zzh (g := gb246) (o := .cells #[.bool t237, .bool t238, .int .i64 t239, .int .i64 t240, .int .i64 t241, .slice Ao11 t242.length co11] 27 (0, 0)) (by (with_reducible repeat (first | refine zzf ?_ _ | refine zzg ?_ | refine zze ?_ _)); exact BK246.out) hb); have n6_ := zzm (zzh (g := gb256) (o := .cells #[.bool t247, .bool t248, .int .i64 t249, .int .i64 t250, .int .i64 t251, .slice Ao16 t252.length co16] 27 (0, 0)) (by (with_reducible repeat (first | refine zzf ?_ _ | refine zzg ?_ | refine zze ?_ _)); exact BK256.out) hb); have n7_ := zzm (zzh (g := gb268) (o := .cells #[.bool t259, .bool t260, .int .i64 t261, .int .i64 t262, .int .i64 t263, .slice (some ad269) t264.length co67] 27 (0, 0)) (by (with_reducible repeat (first | refine zzf ?_ _ | refine zzg ?_ | refine zze ?_ _)); exact BK268.out) hb); have n8_ := zzm (Kd.C_below (by repeat (first | (with_reducible exact HR269_3.out) | (with_reducible refine Kd.C_alloc ?_ _) | (with_reducible refine Kd.C_drewN ?_ _) | (with_reducible refine Kd.C_drew ?_) | exact HR269_3.out)) hb); have n9_ := zzm (Kd.C_below (by repeat (first | (with_reducible exact HR269_5.out) | (with_reducible refine Kd.C_alloc ?_ _) | (with_reducible refine Kd.C_drewN ?_ _) | (with_reducible refine Kd.C_drew ?_) | exact HR269_5.out)) hb); have n10_ := zzm (zzp (by repeat (first | (with_reducible first | exact HB.out | apply zza | apply zzb | apply zzc | refine zzd ?_ GE246.out | refine zzd ?_ GE256.out | refine zzd ?_ GE268.out) | exact HB.out)) hb); have n11_ := zzm (hbox); have n12_ := zzm ((by rw [hg]; exact (zzo (by repeat (first | (with_reducible first | exact HB.out | apply zza | apply zzb | apply zzc | refine zzd ?_ GE246.out | refine zzd ?_ GE256.out | refine zzd ?_ GE268.out) | exact HB.out))) : w.heap.size ≤ gb270)); have n13_ := zzm ((by rw [hg]; exact (zzo (by repeat (first | (with_reducible first | exact HB.out | apply zza | apply zzb | apply zzc | refine zzd ?_ GE246.out | refine zzd ?_ GE256.out | refine zzd ?_ GE268.out) | exact HB.out))) : w.heap.size ≤ gb270)); have n14_ := zzm ((by rw [hg]; exact Nat.ne_of_lt (blk_lt (g := gb246) (o := .cells #[.bool t237, .bool t238, .int .i64 t239, .int .i64 t240, .int .i64 t241, .slice Ao11 t242.length co11] 27 (0, 0)) (by (with_reducible repeat (first | refine zzf ?_ _ | refine zzg ?_ | refine zze ?_ _)); exact BK246.out)) : gb246 ≠ gb270)); have n15_ := zzm ((by rw [hg]; exact Nat.ne_of_gt (blk_lt (g := gb246) (o := .cells #[.bool t237, .bool t238, .int .i64 t239, .int .i64 t240, .int .i64 t241, .slice Ao11 t242.length co11] 27 (0, 0)) (by (with_reducible repeat (first | refine zzf ?_ _ | refine zzg ?_ | refine zze ?_ _)); exact BK246.out)) : gb270 ≠ gb246)); have n16_ := zzm ((by rw [hg]; exact Nat.ne_of_lt (blk_lt (g := gb256) (o := .cells #[.bool t247, .bool t248, .int .i64 t249, .int .i64 t250, .int .i64 t251, .slice Ao16 t252.length co16] 27 (0, 0)) (by (with_reducible repeat (first | refine zzf ?_ _ | refine zzg ?_ | refine zze ?_ _)); exact BK256.out)) : gb256 ≠ gb270)); have n17_ := zzm ((by rw [hg]; exact Nat.ne_of_gt (blk_lt (g := gb256) (o := .cells #[.bool t247, .bool t248, .int .i64 t249, .int .i64 t250, .int .i64 t251, .slice Ao16 t252.length co16] 27 (0, 0)) (by (with_reducible repeat (first | refine zzf ?_ _ | refine zzg ?_ | refine zze ?_ _)); exact BK256.out)) : gb270 ≠ gb256)); have n18_ := zzm ((by rw [hg]; exact Nat.ne_of_lt (blk_lt (g := gb268) (o := .cells #[.bool t259, .bool t260, .int .i64 t261, .int .i64 t262, .int .i64 t263, .slice (some ad269) t264.length co67] 27 (0, 0)) (by (with_reducible repeat (first | refine zzf ?_ _ | refine zzg ?_ | refine zze ?_ _)); exact BK268.out)) : gb268 ≠ gb270)); have n19_ := zzm ((by rw [hg]; exact Nat.ne_of_gt (blk_lt (g := gb268) (o := .cells #[.bool t259, .bool t260, .int .i64 t261, .int .i64 t262, .int .i64 t263, .slice (some ad269) t264.length co67] 27 (0, 0)) (by (with_reducible repeat (first | refine zzf ?_ _ | refine zzg ?_ | refine zze ?_ _)); exact BK268.out)) : gb270 ≠ gb268)); clear HO_247005 HO_257005 HO266 HL269_3 HL269_5 BK246 BK256 BK268 HR269_3 HR269_5 HB; have HO_247005 := n0_; have HO_257005 := n1_; have HO266 := n2_; have HL269_3 := n3_; have HL269_5 := n4_; have BK246 := n5_; have BK256 := n6_; have BK268 := n7_; have HR269_3 := n8_; have HR269_5 := n9_; have HB := n10_; have BK270 := n11_; have GW270 := n12_; have GE270 := n13_; have NB246_270 := n14_; have NB270_246 := n15_; have NB256_270 := n16_; have NB270_256 := n17_; have NB268_270 := n18_; have NB270_268 := n19_; clear n0_ n1_ n2_ n3_ n4_ n5_ n6_ n7_ n8_ n9_ n10_ n11_ n12_ n13_ n14_ n15_ n16_ n17_ n18_ n19_ hb hbox hg; have hnb71 := NB270_246.out; have hnc71 := NB246_270.out; have hnb72 := NB270_256.out; have hnc72 := NB256_270.out; have hnb73 := NB270_268.out; have hnc73 := NB268_270.out; obtain ⟨hcz74_0, hcz74_1, hcz74_2, hcz74_3, hcz74_4, hcz74_5, hfz74_0, hfz74_1, hfz74_2, hfz74_3, hfz74_4, hfz74_5⟩ := zzc6 BK270.out) | ((with_reducible refine gate_store (t := 34) (p := 14) rfl ?_); refine store_event (t := 34) (p := 14) (v := ?vo_w75) (w1 := ((((((w70.setCell ⟨gb270, 0, none⟩ (.int .i64 ((rd_T34 t264 0).f0))).setCell ⟨gb270, 1, none⟩ (.int .i64 ((rd_T34 t264 0).f1))).setCell ⟨gb270, 2, none⟩ (.bool ((rd_T34 t264 0).f2))).setCell ⟨gb270, 3, none⟩ (.slice A269_3 ((rd_T34 t264 0).f3).length c269_3)).setCell ⟨gb270, 4, none⟩ (.bool ((rd_T34 t264 0).f4))).setCell ⟨gb270, 5, none⟩ (.slice A269_5 ((rd_T34 t264 0).f5).length c269_5))) ?hg ?ho ?hn ?hr ?_; (case ho => rfl); (case hg => rfl); (case hn => rfl); (case hr => first | (go_simp; done) | (go_simp; rfl)); intro w75 hw; have n0_ : Aside0 (Kd.N k34 34 w75 w.heap.size (fun k_ => some k_ ≠ (.slice Ao16 t252.length co16 : Value).ownBlock ∧ some k_ ≠ (.slice (some ad269) t264.length co67 : Value).ownBlock ∧ k_ ≠ gb246 ∧ k_ ≠ gb256 ∧ k_ ≠ gb268 ∧ k_ ≠ gb270) (.slice Ao11 t242.length co11) t242) := ⟨(by rw [hw]; exact (by (with_reducible repeat (first | apply Kd.N_alloc | apply Kd.N_drewN | apply Kd.N_drew)); exact Kd.N_mono (Kd.N_far (p := ⟨gb270, 5, none⟩) (Kd.N_far (p := ⟨gb270, 4, none⟩) (Kd.N_far (p := ⟨gb270, 3, none⟩) (Kd.N_far (p := ⟨gb270, 2, none⟩) (Kd.N_far (p := ⟨gb270, 1, none⟩) (Kd.N_far (p := ⟨gb270, 0, none⟩) (Kd.N_mono HO_247005.out (fun k_ hk => (⟨hk, hk.2⟩ : _ ∧ k_ ≠ gb270))) (fun _ hk => hk.2) (.int .i64 ((rd_T34 t264 0).f0))) (fun _ hk => hk.2) (.int .i64 ((rd_T34 t264 0).f1))) (fun _ hk => hk.2) (.bool ((rd_T34 t264 0).f2))) (fun _ hk => hk.2) (.slice A269_3 ((rd_T34 t264 0).f3).length c269_3)) (fun _ hk => hk.2) (.bool ((rd_T34 t264 0).f4))) (fun _ hk => hk.2) (.slice A269_5 ((rd_T34 t264 0).f5).length c269_5)) (fun _ hk => ⟨hk.1.1.1, ⟨hk.1.1.2.1, ⟨hk.1.1.2.2.1, ⟨hk.1.1.2.2.2.1, ⟨hk.1.1.2.2.2.2, hk.1.2⟩⟩⟩⟩⟩)))⟩; have n1_ : Aside0 (Kd.N k34 34 w75 w.heap.size (fun k_ => some k_ ≠ (.slice Ao11 t242.length co11 : Value).ownBlock ∧ some k_ ≠ (.slice (some ad269) t264.length co67 : Value).ownBlock ∧ k_ ≠ gb246 ∧ k_ ≠ gb256 ∧ k_ ≠ gb268 ∧ k_ ≠ gb270) (.slice Ao16 t252.length co16) t252) := ⟨(by rw [hw]; exact (by (with_reducible repeat (first | apply Kd.N_alloc | apply Kd.N_drewN | apply Kd.N_drew)); exact Kd.N_mono (Kd.N_far (p := ⟨gb270, 5, none⟩) (Kd.N_far (p := ⟨gb270, 4, none⟩) (Kd.N_far (p := ⟨gb270, 3, none⟩) (Kd.N_far (p := ⟨gb270, 2, none⟩) (Kd.N_far (p := ⟨gb270, 1, none⟩) (Kd.N_far (p := ⟨gb270, 0, none⟩) (Kd.N_mono HO_257005.out (fun k_ hk => (⟨hk, hk.2⟩ : _ ∧ k_ ≠ gb270))) (fun _ hk => hk.2) (.int .i64 ((rd_T34 t264 0).f0))) (fun _ hk => hk.2) (.int .i64 ((rd_T34 t264 0).f1))) (fun _ hk => hk.2) (.bool ((rd_T34 t264 0).f2))) (fun _ hk => hk.2) (.slice A269_3 ((rd_T34 t264 0).f3).length c269_3)) (fun _ hk => hk.2) (.bool ((rd_T34 t264 0).f4))) (fun _ hk => hk.2) (.slice A269_5 ((rd_T34 t264 0).f5).length c269_5)) (fun _ hk => ⟨hk.1.1.1, ⟨hk.1.1.2.1, ⟨hk.1.1.2.2.1, ⟨hk.1.1.2.2.2.1, ⟨hk.1.1.2.2.2.2, hk.1.2⟩⟩⟩⟩⟩)))⟩; have n2_ : Aside0 (Kd.N k34 34 w75 w.heap.size (fun k_ => some k_ ≠ (.slice Ao11 t242.length co11 : Value).ownBlock ∧ some k_ ≠ (.slice Ao16 t252.length co16 : Value).ownBlock ∧ k_ ≠ gb246 ∧ k_ ≠ gb256 ∧ k_ ≠ gb268 ∧ k_ ≠ gb270) (.slice (some ad269) t264.length co67) t264) := ⟨(by rw [hw]; exact (by (with_reducible repeat (first | apply Kd.N_alloc | apply Kd.N_drewN | apply Kd.N_drew)); exact Kd.N_mono (Kd.N_far (p := ⟨gb270, 5, none⟩) (Kd.N_far (p := ⟨gb270, 4, none⟩) (Kd.N_far (p := ⟨gb270, 3, none⟩) (Kd.N_far (p := ⟨gb270, 2, none⟩) (Kd.N_far (p := ⟨gb270, 1, none⟩) (Kd.N_far (p := ⟨gb270, 0, none⟩) (Kd.N_mono HO266.out (fun k_ hk => (⟨hk, hk.2⟩ : _ ∧ k_ ≠ gb270))) (fun _ hk => hk.2) (.int .i64 ((rd_T34 t264 0).f0))) (fun _ hk => hk.2) (.int .i64 ((rd_T34 t264 0).f1))) (fun _ hk => hk.2) (.bool ((rd_T34 t264 0).f2))) (fun _ hk => hk.2) (.slice A269_3 ((rd_T34 t264 0).f3).length c269_3)) (fun _ hk => hk.2) (.bool ((rd_T34 t264 0).f4))) (fun _ hk => hk.2) (.slice A269_5 ((rd_T34 t264 0).f5).length c269_5)) (fun _ hk => ⟨hk.1.1.1, ⟨hk.1.1.2.1, ⟨hk.1.1.2.2.1, ⟨hk.1.1.2.2.2.1, ⟨hk.1.1.2.2.2.2, hk.1.2⟩⟩⟩⟩⟩)))⟩; have n3_ : Aside0 (Kd.V (Kd.int .i64) 3 w75 w.heap.size (fun k_ => some k_ ≠ (.slice Ao11 t242.length co11 : Value).ownBlock ∧ some k_ ≠ (.slice Ao16 t252.length co16 : Value).ownBlock ∧ some k_ ≠ (.slice (some ad269) t264.length co67 : Value).ownBlock ∧ k_ ≠ gb246 ∧ k_ ≠ gb256 ∧ k_ ≠ gb268 ∧ k_ ≠ gb270) (.slice A269_3 ((rd_T34 t264 0).f3).length c269_3) ((rd_T34 t264 0).f3)) := ⟨(by rw [hw]; exact (by (with_reducible repeat (first | apply Kd.V_alloc | apply Kd.V_drewN | apply Kd.V_drew)); exact Kd.V_mono (Kd.V_far (p := ⟨gb270, 5, none⟩) (Kd.V_far (p := ⟨gb270, 4, none⟩) (Kd.V_far (p := ⟨gb270, 3, none⟩) (Kd.V_far (p := ⟨gb270, 2, none⟩) (Kd.V_far (p := ⟨gb270, 1, none⟩) (Kd.V_far (p := ⟨gb270, 0, none⟩) (Kd.V_mono HL269_3.out (fun k_ hk => (⟨hk, hk.2⟩ : _ ∧ k_ ≠ gb270))) (fun _ hk => hk.2) (.int .i64 ((rd_T34 t264 0).f0))) (fun _ hk => hk.2) (.int .i64 ((rd_T34 t264 0).f1))) (fun _ hk => hk.2) (.bool ((rd_T34 t264 0).f2))) (fun _ hk => hk.2) (.slice A269_3 ((rd_T34 t264 0).f3).length c269_3)) (fun _ hk => hk.2) (.bool ((rd_T34 t264 0).f4))) (fun _ hk => hk.2) (.slice A269_5 ((rd_T34 t264 0).f5).length c269_5)) (fun _ hk => ⟨hk.1.1.1.1, ⟨hk.1.1.1.2.1, ⟨hk.1.1.2, ⟨hk.1.1.1.2.2.1, ⟨hk.1.1.1.2.2.2.1, ⟨hk.1.1.1.2.2.2.2, hk.1.2⟩⟩⟩⟩⟩⟩)))⟩; have n4_ : Aside0 (Kd.V (Kd.int .i64) 3 w75 w.heap.size (fun k_ => some k_ ≠ (.slice Ao11 t242.length co11 : Value).ownBlock ∧ some k_ ≠ (.slice Ao16 t252.length co16 : Value).ownBlock ∧ some k_ ≠ (.slice (some ad269) t264.length co67 : Value).ownBlock ∧ k_ ≠ gb246 ∧ k_ ≠ gb256 ∧ k_ ≠ gb268 ∧ k_ ≠ gb270) (.slice A269_5 ((rd_T34 t264 0).f5).length c269_5) ((rd_T34 t264 0).f5)) := ⟨(by rw [hw]; exact (by (with_reducible repeat (first | apply Kd.V_alloc | apply Kd.V_drewN | apply Kd.V_drew)); exact Kd.V_mono (Kd.V_far (p := ⟨gb270, 5, none⟩) (Kd.V_far (p := ⟨gb270, 4, none⟩) (Kd.V_far (p := ⟨gb270, 3, none⟩) (Kd.V_far (p := ⟨gb270, 2, none⟩) (Kd.V_far (p := ⟨gb270, 1, none⟩) (Kd.V_far (p := ⟨gb270, 0, none⟩) (Kd.V_mono HL269_5.out (fun k_ hk => (⟨hk, hk.2⟩ : _ ∧ k_ ≠ gb270))) (fun _ hk => hk.2) (.int .i64 ((rd_T34 t264 0).f0))) (fun _ hk => hk.2) (.int .i64 ((rd_T34 t264 0).f1))) (fun _ hk => hk.2) (.bool ((rd_T34 t264 0).f2))) (fun _ hk => hk.2) (.slice A269_3 ((rd_T34 t264 0).f3).length c269_3)) (fun _ hk => hk.2) (.bool ((rd_T34 t264 0).f4))) (fun _ hk => hk.2) (.slice A269_5 ((rd_T34 t264 0).f5).length c269_5)) (fun _ hk => ⟨hk.1.1.1.1, ⟨hk.1.1.1.2.1, ⟨hk.1.1.2, ⟨hk.1.1.1.2.2.1, ⟨hk.1.1.1.2.2.2.1, ⟨hk.1.1.1.2.2.2.2, hk.1.2⟩⟩⟩⟩⟩⟩)))⟩; have n5_ : Aside0 (w75.heap[gb246]? = some (.cells #[.bool t237, .bool t238, .int .i64 t239, .int .i64 t240, .int .i64 t241, .slice Ao11 t242.length co11] 27 (0, 0))) := ⟨(by rw [hw]; exact (by (with_reducible repeat (first | refine zzf ?_ _ | refine zzg ?_ | refine zze ?_ _)); refine zzj ?_ NB246_270.out _; (with_reducible repeat (first | refine zzf ?_ _ | refine zzg ?_ | refine zze ?_ _)); refine zzj ?_ NB246_270.out _; (with_reducible repeat (first | refine zzf ?_ _ | refine zzg ?_ | refine zze ?_ _)); refine zzj ?_ NB246_270.out _; (with_reducible repeat (first | refine zzf ?_ _ | refine zzg ?_ | refine zze ?_ _)); refine zzj ?_ NB246_270.out _; (with_reducible repeat (first | refine zzf ?_ _ | refine zzg ?_ | refine zze ?_ _)); refine zzj ?_ NB246_270.out _; (with_reducible repeat (first | refine zzf ?_ _ | refine zzg ?_ | refine zze ?_ _)); refine zzj ?_ NB246_270.out _; (with_reducible repeat (first | refine zzf ?_ _ | refine zzg ?_ | refine zze ?_ _)); exact BK246.out))⟩; have n6_ : Aside0 (w75.heap[gb256]? = some (.cells #[.bool t247, .bool t248, .int .i64 t249, .int .i64 t250, .int .i64 t251, .slice Ao16 t252.length co16] 27 (0, 0))) := ⟨(by rw [hw]; exact (by (with_reducible repeat (first | refine zzf ?_ _ | refine zzg ?_ | refine zze ?_ _)); refine zzj ?_ NB256_270.out _; (with_reducible repeat (first | refine zzf ?_ _ | refine zzg ?_ | refine zze ?_ _)); refine zzj ?_ NB256_270.out _; (with_reducible repeat (first | refine zzf ?_ _ | refine zzg ?_ | refine zze ?_ _)); refine zzj ?_ NB256_270.out _; (with_reducible repeat (first | refine zzf ?_ _ | refine zzg ?_ | refine zze ?_ _)); refine zzj ?_ NB256_270.out _; (with_reducible repeat (first | refine zzf ?_ _ | refine zzg ?_ | refine zze ?_ _)); refine zzj ?_ NB256_270.out _; (with_reducible repeat (first | refine zzf ?_ _ | refine zzg ?_ | refine zze ?_ _)); refine zzj ?_ NB256_270.out _; (with_reducible repeat (first | refine zzf ?_ _ | refine zzg ?_ | refine zze ?_ _)); exact BK256.out))⟩; have n7_ : Aside0 (w75.heap[gb268]? = some (.cells #[.bool t259, .bool t260, .int .i64 t261, .int .i64 t262, .int .i64 t263, .slice (some ad269) t264.length co67] 27 (0, 0))) := ⟨(by rw [hw]; exact (by (with_reducible repeat (first | refine zzf ?_ _ | refine zzg ?_ | refine zze ?_ _)); refine zzj ?_ NB268_270.out _; (with_reducible repeat (first | refine zzf ?_ _ | refine zzg ?_ | refine zze ?_ _)); refine zzj ?_ NB268_270.out _; (with_reducible repeat (first | refine zzf ?_ _ | refine zzg ?_ | refine zze ?_ _)); refine zzj ?_ NB268_270.out _; (with_reducible repeat (first | refine zzf ?_ _ | refine zzg ?_ | refine zze ?_ _)); refine zzj ?_ NB268_270.out _; (with_reducible repeat (first | refine zzf ?_ _ | refine zzg ?_ | refine zze ?_ _)); refine zzj ?_ NB268_270.out _; (with_reducible repeat (first | refine zzf ?_ _ | refine zzg ?_ | refine zze ?_ _)); refine zzj ?_ NB268_270.out _; (with_reducible repeat (first | refine zzf ?_ _ | refine zzg ?_ | refine zze ?_ _)); exact BK268.out))⟩; have n8_ : Aside0 (w75.heap[gb270]? = some (.cells #[.int .i64 ((rd_T34 t264 0).f0), .int .i64 ((rd_T34 t264 0).f1), .bool ((rd_T34 t264 0).f2), .slice A269_3 ((rd_T34 t264 0).f3).length c269_3, .bool ((rd_T34 t264 0).f4), .slice A269_5 ((rd_T34 t264 0).f5).length c269_5] 34 (0, 0))) := ⟨(by rw [hw]; exact (by (with_reducible repeat (first | refine zzf ?_ _ | refine zzg ?_ | refine zze ?_ _)); refine zzi (cs := #[.int .i64 ((rd_T34 t264 0).f0), .int .i64 ((rd_T34 t264 0).f1), .bool ((rd_T34 t264 0).f2), .slice A269_3 ((rd_T34 t264 0).f3).length c269_3, .bool ((rd_T34 t264 0).f4), .slice none 0 0]) ?_ 5 _ rfl; (with_reducible repeat (first | refine zzf ?_ _ | refine zzg ?_ | refine zze ?_ _)); refine zzi (cs := #[.int .i64 ((rd_T34 t264 0).f0), .int .i64 ((rd_T34 t264 0).f1), .bool ((rd_T34 t264 0).f2), .slice A269_3 ((rd_T34 t264 0).f3).length c269_3, .bool false, .slice none 0 0]) ?_ 4 _ rfl; (with_reducible repeat (first | refine zzf ?_ _ | refine zzg ?_ | refine zze ?_ _)); refine zzi (cs := #[.int .i64 ((rd_T34 t264 0).f0), .int .i64 ((rd_T34 t264 0).f1), .bool ((rd_T34 t264 0).f2), .slice none 0 0, .bool false, .slice none 0 0]) ?_ 3 _ rfl; (with_reducible repeat (first | refine zzf ?_ _ | refine zzg ?_ | refine zze ?_ _)); refine zzi (cs := #[.int .i64 ((rd_T34 t264 0).f0), .int .i64 ((rd_T34 t264 0).f1), .bool false, .slice none 0 0, .bool false, .slice none 0 0]) ?_ 2 _ rfl; (with_reducible repeat (first | refine zzf ?_ _ | refine zzg ?_ | refine zze ?_ _)); refine zzi (cs := #[.int .i64 ((rd_T34 t264 0).f0), .int .i64 0, .bool false, .slice none 0 0, .bool false, .slice none 0 0]) ?_ 1 _ rfl; (with_reducible repeat (first | refine zzf ?_ _ | refine zzg ?_ | refine zze ?_ _)); refine zzi (cs := #[.int .i64 0, .int .i64 0, .bool false, .slice none 0 0, .bool false, .slice none 0 0]) ?_ 0 _ rfl; (with_reducible repeat (first | refine zzf ?_ _ | refine zzg ?_ | refine zze ?_ _)); exact BK270.out))⟩; have n9_ : Aside0 (Below w.heap.size w w75) := ⟨(by rw [hw]; exact (by repeat (first | (with_reducible first | exact HB.out | apply zza | apply zzb | apply zzc | refine zzd ?_ GE246.out | refine zzd ?_ GE256.out | refine zzd ?_ GE268.out | refine zzd ?_ GE270.out) | exact HB.out)))⟩; clear hw HO_247005 HO_257005 HO266 HL269_3 HL269_5 BK246 BK256 BK268 BK270 HB; have HO_247005 := n0_; have HO_257005 := n1_; have HO266 := n2_; have HL269_3 := n3_; have HL269_5 := n4_; have BK246 := n5_; have BK256 := n6_; have BK268 := n7_; have BK270 := n8_; have HB := n9_; clear n0_ n1_ n2_ n3_ n4_ n5_ n6_ n7_ n8_ n9_; have hnb76 := NB246_256.out; have hnc76 := NB256_246.out; obtain ⟨hcz77_0, hcz77_1, hcz77_2, hcz77_3, hcz77_4, hcz77_5, hfz77_0, hfz77_1, hfz77_2, hfz77_3, hfz77_4, hfz77_5⟩ := zzc6 BK246.out; have p271 : 0 ≤ (0 : Int) := (by omega); have q271 : 0 < (t242.length : Int) := of_decide_eq_true (by first | (with_reducible assumption) | assumption); obtain ⟨ad271, A271_3, c271_3, A271_5, c271_5, e271, hx271_0, hx271_1, hx271_2, hx271_3, hx271_4, hx271_5, hl271_3, hi271_3, hl271_5, hi271_5⟩ := at_T34 (Kd.N_reads' HO_247005.out).2.2 0 p271 q271; cases e271; obtain ⟨ce271, hce271, hMe271, hcc271⟩ := Kd.N_get HO_247005.out z34 0 p271 (by first | exact q271 | exact of_decide_eq_true (by first | (with_reducible assumption) | assumption) | (have e_ := (Kd.N_reads' HO_247005.out).1; omega)); obtain ⟨ua271_3, uc271_3, ua271_5, uc271_5, rfl, ul271_3, ge271_3, ul271_5, ge271_5⟩ := k34_openF hMe271; have hv271_3 := hcc271 3 _ rfl; rw [add_field _ _ 3 (by omega)] at hv271_3; replace hv271_3 := Option.some.inj (hv271_3.symm.trans hx271_3); injection hv271_3 with hva_ hvn_ hvc_; rw [hva_] at ge271_3; rw [hvc_] at ul271_3; have HL271_3 := zzm (show Kd.V (Kd.int .i64) 3 _ w.heap.size _ _ ((rd_T34 t242 0).f3) from Kd.V_mk ul271_3 ge271_3); clear hva_ hvn_ hvc_ ge271_3 ul271_3; have hv271_5 := hcc271 5 _ rfl; rw [add_field _ _ 5 (by omega)] at hv271_5; replace hv271_5 := Option.some.inj (hv271_5.symm.trans hx271_5); injection hv271_5 with hva_ hvn_ hvc_; rw [hva_] at ge271_5; rw [hvc_] at ul271_5; have HL271_5 := zzm (show Kd.V (Kd.int .i64) 3 _ w.heap.size _ _ ((rd_T34 t242 0).f5) from Kd.V_mk ul271_5 ge271_5); clear hva_ hvn_ hvc_ ge271_5 ul271_5 hcc271 hce271; have qi271 : (0 < t242.length) = True := eq_true (by omega); (try rw [show ((0 : Int)).toNat = 0 from rfl] at hx271_0); (try rw [show 0 * 6 = 0 from rfl] at hx271_0); (try rw [Addr.add_zero'] at hx271_0); (try rw [show ((0 : Int)).toNat = 0 from rfl] at hx271_1); (try rw [show 0 * 6 = 0 from rfl] at hx271_1); (try rw [Addr.add_zero'] at hx271_1); (try rw [show ((0 : Int)).toNat = 0 from rfl] at hx271_2); (try rw [show 0 * 6 = 0 from rfl] at hx271_2); (try rw [Addr.add_zero'] at hx271_2); (try rw [show ((0 : Int)).toNat = 0 from rfl] at hx271_3); (try rw [show 0 * 6 = 0 from rfl] at hx271_3); (try rw [Addr.add_zero'] at hx271_3); (try rw [show ((0 : Int)).toNat = 0 from rfl] at hx271_4); (try rw [show 0 * 6 = 0 from rfl] at hx271_4); (try rw [Addr.add_zero'] at hx271_4); (try rw [show ((0 : Int)).toNat = 0 from rfl] at hx271_5); (try rw [show 0 * 6 = 0 from rfl] at hx271_5); (try rw [Addr.add_zero'] at hx271_5); have HR271_3 := zzm hi271_3; have HC271_3 := zzm hl271_3; clear hi271_3 hl271_3; have HR271_5 := zzm hi271_5; have HC271_5 := zzm hl271_5; clear hi271_5 hl271_5; replace p271 := eq_true p271; replace q271 := eq_true q271; obtain ⟨hcz78_0, hcz78_1, hcz78_2, hcz78_3, hcz78_4, hcz78_5, hfz78_0, hfz78_1, hfz78_2, hfz78_3, hfz78_4, hfz78_5⟩ := zzc6 BK270.out))
         have n0_ : Aside0 (Kd.N k34 34 (w75.setCell ⟨gb270, 5, none⟩ (.slice A271_5 ((rd_T34 t242 0).f5).length c271_5)) w.heap.size (fun k_ => some k_ ≠ (.slice Ao16 t252.length co16 : Value).ownBlock ∧ some k_ ≠ (.slice (some ad269) t264.length co67 : Value).ownBlock ∧ k_ ≠ gb246 ∧ k_ ≠ gb256 ∧ k_ ≠ gb268 ∧ k_ ≠ gb270) (.slice (some ad271) t242.length co11) t242) := ⟨by (with_reducible repeat (first | apply Kd.N_alloc | apply Kd.N_drewN | apply Kd.N_drew)); exact Kd.N_mono (Kd.N_far (p := ⟨gb270, 5, none⟩) (Kd.N_mono HO_247005.out (fun k_ hk => (⟨hk, hk.2.2.2.2.2⟩ : _ ∧ k_ ≠ gb270))) (fun _ hk => hk.2) (.slice A271_5 ((rd_T34 t242 0).f5).length c271_5)) (fun _ hk => ⟨hk.1.1, ⟨hk.1.2.1, ⟨hk.1.2.2.1, ⟨hk.1.2.2.2.1, ⟨hk.1.2.2.2.2.1, hk.1.2.2.2.2.2⟩⟩⟩⟩⟩)⟩
         have n1_ : Aside0 (Kd.N k34 34 (w75.setCell ⟨gb270, 5, none⟩ (.slice A271_5 ((rd_T34 t242 0).f5).length c271_5)) w.heap.size (fun k_ => some k_ ≠ (.slice (some ad271) t242.length co11 : Value).ownBlock ∧ some k_ ≠ (.slice (some ad269) t264.length co67 : Value).ownBlock ∧ k_ ≠ gb246 ∧ k_ ≠ gb256 ∧ k_ ≠ gb268 ∧ k_ ≠ gb270) (.slice Ao16 t252.length co16) t252) := ⟨by (with_reducible repeat (first | apply Kd.N_alloc | apply Kd.N_drewN | apply Kd.N_drew)); exact Kd.N_mono (Kd.N_far (p := ⟨gb270, 5, none⟩) (Kd.N_mono HO_257005.out (fun k_ hk => (⟨hk, hk.2.2.2.2.2⟩ : _ ∧ k_ ≠ gb270))) (fun _ hk => hk.2) (.slice A271_5 ((rd_T34 t242 0).f5).length c271_5)) (fun _ hk => ⟨hk.1.1, ⟨hk.1.2.1, ⟨hk.1.2.2.1, ⟨hk.1.2.2.2.1, ⟨hk.1.2.2.2.2.1, hk.1.2.2.2.2.2⟩⟩⟩⟩⟩)⟩
         have n2_ : Aside0 (Kd.N k34 34 (w75.setCell ⟨gb270, 5, none⟩ (.slice A271_5 ((rd_T34 t242 0).f5).length c271_5)) w.heap.size (fun k_ => some k_ ≠ (.slice (some ad271) t242.length co11 : Value).ownBlock ∧ some k_ ≠ (.slice Ao16 t252.length co16 : Value).ownBlock ∧ k_ ≠ gb246 ∧ k_ ≠ gb256 ∧ k_ ≠ gb268 ∧ k_ ≠ gb270) (.slice (some ad269) t264.length co67) t264) := ⟨by (with_reducible repeat (first | apply Kd.N_alloc | apply Kd.N_drewN | apply Kd.N_drew)); exact Kd.N_mono (Kd.N_far (p := ⟨gb270, 5, none⟩) (Kd.N_mono HO266.out (fun k_ hk => (⟨hk, hk.2.2.2.2.2⟩ : _ ∧ k_ ≠ gb270))) (fun _ hk => hk.2) (.slice A271_5 ((rd_T34 t242 0).f5).length c271_5)) (fun _ hk => ⟨hk.1.1, ⟨hk.1.2.1, ⟨hk.1.2.2.1, ⟨hk.1.2.2.2.1, ⟨hk.1.2.2.2.2.1, hk.1.2.2.2.2.2⟩⟩⟩⟩⟩)⟩
         have n3_ : Aside0 (Kd.V (Kd.int .i64) 3 (w75.setCell ⟨gb270, 5, none⟩ (.slice A271_5 ((rd_T34 t242 0).f5).length c271_5)) w.heap.size (fun k_ => some k_ ≠ (.slice (some ad271) t242.length co11 : Value).ownBlock ∧ some k_ ≠ (.slice Ao16 t252.length co16 : Value).ownBlock ∧ some k_ ≠ (.slice (some ad269) t264.length co67 : Value).ownBlock ∧ k_ ≠ gb246 ∧ k_ ≠ gb256 ∧ k_ ≠ gb268 ∧ k_ ≠ gb270) (.slice A269_3 ((rd_T34 t264 0).f3).length c269_3) ((rd_T34 t264 0).f3)) := ⟨by (with_reducible repeat (first | apply Kd.V_alloc | apply Kd.V_drewN | apply Kd.V_drew)); exact Kd.V_mono (Kd.V_far (p := ⟨gb270, 5, none⟩) (Kd.V_mono HL269_3.out (fun k_ hk => (⟨hk, hk.2.2.2.2.2.2⟩ : _ ∧ k_ ≠ gb270))) (fun _ hk => hk.2) (.slice A271_5 ((rd_T34 t242 0).f5).length c271_5)) (fun _ hk => ⟨hk.1.1, ⟨hk.1.2.1, ⟨hk.1.2.2.1, ⟨hk.1.2.2.2.1, ⟨hk.1.2.2.2.2.1, ⟨hk.1.2.2.2.2.2.1, hk.1.2.2.2.2.2.2⟩⟩⟩⟩⟩⟩)⟩
         have n4_ : Aside0 (Kd.V (Kd.int .i64) 3 (w75.setCell ⟨gb270, 5, none⟩ (.slice A271_5 ((rd_T34 t242 0).f5).length c271_5)) w.heap.size (fun k_ => some k_ ≠ (.slice (some ad271) t242.length co11 : Value).ownBlock ∧ some k_ ≠ (.slice Ao16 t252.length co16 : Value).ownBlock ∧ some k_ ≠ (.slice (some ad269) t264.length co67 : Value).ownBlock ∧ k_ ≠ gb246 ∧ k_ ≠ gb256 ∧ k_ ≠ gb268 ∧ k_ ≠ gb270) (.slice A269_5 ((rd_T34 t264 0).f5).length c269_5) ((rd_T34 t264 0).f5)) := ⟨by (with_reducible repeat (first | apply Kd.V_alloc | apply Kd.V_drewN | apply Kd.V_drew)); exact Kd.V_mono (Kd.V_far (p := ⟨gb270, 5, none⟩) (Kd.V_mono HL269_5.out (fun k_ hk => (⟨hk, hk.2.2.2.2.2.2⟩ : _ ∧ k_ ≠ gb270))) (fun _ hk => hk.2) (.slice A271_5 ((rd_T34 t242 0).f5).length c271_5)) (fun _ hk => ⟨hk.1.1, ⟨hk.1.2.1, ⟨hk.1.2.2.1, ⟨hk.1.2.2.2.1, ⟨hk.1.2.2.2.2.1, ⟨hk.1.2.2.2.2.2.1, hk.1.2.2.2.2.2.2⟩⟩⟩⟩⟩⟩)⟩
         have n5_ : Aside0 (Kd.V (Kd.int .i64) 3 (w75.setCell ⟨gb270, 5, none⟩ (.slice A271_5 ((rd_T34 t242 0).f5).length c271_5)) w.heap.size (fun k_ => some k_ ≠ (.slice (some ad271) t242.length co11 : Value).ownBlock ∧ some k_ ≠ (.slice Ao16 t252.length co16 : Value).ownBlock ∧ some k_ ≠ (.slice (some ad269) t264.length co67 : Value).ownBlock ∧ k_ ≠ gb246 ∧ k_ ≠ gb256 ∧ k_ ≠ gb268 ∧ k_ ≠ gb270) (.slice A271_3 ((rd_T34 t242 0).f3).length c271_3) ((rd_T34 t242 0).f3)) := ⟨by (with_reducible repeat (first | apply Kd.V_alloc | apply Kd.V_drewN | apply Kd.V_drew)); exact Kd.V_mono (Kd.V_far (p := ⟨gb270, 5, none⟩) (Kd.V_mono HL271_3.out (fun k_ hk => (⟨hk, hk.1.2.2.2.2.2⟩ : _ ∧ k_ ≠ gb270))) (fun _ hk => hk.2) (.slice A271_5 ((rd_T34 t242 0).f5).length c271_5)) (fun _ hk => ⟨hk.1.2, ⟨hk.1.1.1, ⟨hk.1.1.2.1, ⟨hk.1.1.2.2.1, ⟨hk.1.1.2.2.2.1, ⟨hk.1.1.2.2.2.2.1, hk.1.1.2.2.2.2.2⟩⟩⟩⟩⟩⟩)⟩
         have n6_ : Aside0 (Kd.V (Kd.int .i64) 3 (w75.setCell ⟨gb270, 5, none⟩ (.slice A271_5 ((rd_T34 t242 0).f5).length c271_5)) w.heap.size (fun k_ => some k_ ≠ (.slice (some ad271) t242.length co11 : Value).ownBlock ∧ some k_ ≠ (.slice Ao16 t252.length co16 : Value).ownBlock ∧ some k_ ≠ (.slice (some ad269) t264.length co67 : Value).ownBlock ∧ k_ ≠ gb246 ∧ k_ ≠ gb256 ∧ k_ ≠ gb268 ∧ k_ ≠ gb270) (.slice A271_5 ((rd_T34 t242 0).f5).length c271_5) ((rd_T34 t242 0).f5)) := ⟨by (with_reducible repeat (first | apply Kd.V_alloc | apply Kd.V_drewN | apply Kd.V_drew)); exact Kd.V_mono (Kd.V_far (p := ⟨gb270, 5, none⟩) (Kd.V_mono HL271_5.out (fun k_ hk => (⟨hk, hk.1.2.2.2.2.2⟩ : _ ∧ k_ ≠ gb270))) (fun _ hk => hk.2) (.slice A271_5 ((rd_T34 t242 0).f5).length c271_5)) (fun _ hk => ⟨hk.1.2, ⟨hk.1.1.1, ⟨hk.1.1.2.1, ⟨hk.1.1.2.2.1, ⟨hk.1.1.2.2.2.1, ⟨hk.1.1.2.2.2.2.1, hk.1.1.2.2.2.2.2⟩⟩⟩⟩⟩⟩)⟩
         have n7_ : Aside0 ((w75.setCell ⟨gb270, 5, none⟩ (.slice A271_5 ((rd_T34 t242 0).f5).length c271_5)).heap[gb246]? = some (.cells #[.bool t237, .bool t238, .int .i64 t239, .int .i64 t240, .int .i64 t241, .slice (some ad271) t242.length co11] 27 (0, 0))) := ⟨by (with_reducible repeat (first | refine zzf ?_ _ | refine zzg ?_ | refine zze ?_ _)); refine zzj ?_ NB246_270.out _; (with_reducible repeat (first | refine zzf ?_ _ | refine zzg ?_ | refine zze ?_ _)); exact BK246.out⟩
         have n8_ : Aside0 ((w75.setCell ⟨gb270, 5, none⟩ (.slice A271_5 ((rd_T34 t242 0).f5).length c271_5)).heap[gb256]? = some (.cells #[.bool t247, .bool t248, .int .i64 t249, .int .i64 t250, .int .i64 t251, .slice Ao16 t252.length co16] 27 (0, 0))) := ⟨by (with_reducible repeat (first | refine zzf ?_ _ | refine zzg ?_ | refine zze ?_ _)); refine zzj ?_ NB256_270.out _; (with_reducible repeat (first | refine zzf ?_ _ | refine zzg ?_ | refine zze ?_ _)); exact BK256.out⟩
         have n9_ : Aside0 ((w75.setCell ⟨gb270, 5, none⟩ (.slice A271_5 ((rd_T34 t242 0).f5).length c271_5)).heap[gb268]? = some (.cells #[.bool t259, .bool t260, .int .i64 t261, .int .i64 t262, .int .i64 t263, .slice (some ad269) t264.length co67] 27 (0, 0))) := ⟨by (with_reducible repeat (first | refine zzf ?_ _ | refine zzg ?_ | refine zze ?_ _)); refine zzj ?_ NB268_270.out _; (with_reducible repeat (first | refine zzf ?_ _ | refine zzg ?_ | refine zze ?_ _)); exact BK268.out⟩
         have n10_ : Aside0 ((w75.setCell ⟨gb270, 5, none⟩ (.slice A271_5 ((rd_T34 t242 0).f5).length c271_5)).heap[gb270]? = some (.cells #[.int .i64 ((rd_T34 t264 0).f0), .int .i64 ((rd_T34 t264 0).f1), .bool ((rd_T34 t264 0).f2), .slice A269_3 ((rd_T34 t264 0).f3).length c269_3, .bool ((rd_T34 t264 0).f4), .slice A271_5 ((rd_T34 t242 0).f5).length c271_5] 34 (0, 0))) := ⟨by (with_reducible repeat (first | refine zzf ?_ _ | refine zzg ?_ | refine zze ?_ _)); refine zzi (cs := #[.int .i64 ((rd_T34 t264 0).f0), .int .i64 ((rd_T34 t264 0).f1), .bool ((rd_T34 t264 0).f2), .slice A269_3 ((rd_T34 t264 0).f3).length c269_3, .bool ((rd_T34 t264 0).f4), .slice A269_5 ((rd_T34 t264 0).f5).length c269_5]) ?_ 5 _ rfl; (with_reducible repeat (first | refine zzf ?_ _ | refine zzg ?_ | refine zze ?_ _)); exact BK270.out⟩
         have n11_ : Aside0 (Below w.heap.size w (w75.setCell ⟨gb270, 5, none⟩ (.slice A271_5 ((rd_T34 t242 0).f5).length c271_5))) := ⟨by repeat (first | (with_reducible first | exact HB.out | apply zza | apply zzb | apply zzc | refine zzd ?_ GE246.out | refine zzd ?_ GE256.out | refine zzd ?_ GE268.out | refine zzd ?_ GE270.out) | exact HB.out)⟩
         (try clear HO_247005)
         (try clear HO_257005)
         (try clear HO266)
         (try clear HL269_3)
         (try clear HL269_5)
         (try clear HL271_3)
         (try clear HL271_5)
         (try clear BK246)
         (try clear BK256)
         (try clear BK268)
         (try clear BK270)
         (try clear HB)
         generalize (w75.setCell ⟨gb270, 5, none⟩ (.slice A271_5 ((rd_T34 t242 0).f5).length c271_5)) = w79 at n0_ n1_ n2_ n3_ n4_ n5_ n6_ n7_ n8_ n9_ n10_ n11_ ⊢
         have HO_247005 := n0_
         have HO_257005 := n1_
         have HO266 := n2_
         have HL269_3 := n3_
         have HL269_5 := n4_
         have HL271_3 := n5_
         have HL271_5 := n6_
         have BK246 := n7_
         have BK256 := n8_
         have BK268 := n9_
         have BK270 := n10_
         have HB := n11_
         clear n0_ n1_ n2_ n3_ n4_ n5_ n6_ n7_ n8_ n9_ n10_ n11_
         have n0_ := zzm (Kd.N_drew HO_247005.out)
         have n1_ := zzm (Kd.N_drew HO_257005.out)
         have n2_ := zzm (Kd.N_drew HO266.out)
         have n3_ := zzm (Kd.V_drew HL269_3.out)
         have n4_ := zzm (Kd.V_drew HL269_5.out)
         have n5_ := zzm (Kd.V_drew HL271_3.out)
         have n6_ := zzm (Kd.V_drew HL271_5.out)
         have n7_ := zzm (zzg BK246.out)
         have n8_ := zzm (zzg BK256.out)
         have n9_ := zzm (zzg BK268.out)
         have n10_ := zzm (zzg BK270.out)
         have n11_ := zzm (zzc HB.out)
         clear HO_247005
         clear HO_257005
         clear HO266
         clear HL269_3
         clear HL269_5
         clear HL271_3
         clear HL271_5
         clear BK246
         clear BK256
         clear BK268
         clear BK270
         clear HB
         have HO_247005 := n0_
         have HO_257005 := n1_
         have HO266 := n2_
         have HL269_3 := n3_
         have HL269_5 := n4_
         have HL271_3 := n5_
         have HL271_5 := n6_
         have BK246 := n7_
         have BK256 := n8_
         have BK268 := n9_
         have BK270 := n10_
         have HB := n11_
         clear n0_ n1_ n2_ n3_ n4_ n5_ n6_ n7_ n8_ n9_ n10_ n11_
         have p273 : 0 ≤ (0 : Int) := (by omega)
         have q273 : 0 < (t242.length : Int) := of_decide_eq_true (by first | (with_reducible assumption) | assumption)
         obtain ⟨ad273, A273_3, c273_3, A273_5, c273_5, e273, hx273_0, hx273_1, hx273_2, hx273_3, hx273_4, hx273_5, hl273_3, hi273_3, hl273_5, hi273_5⟩ := at_T34 (Kd.N_reads' HO_247005.out).2.2 0 p273 q273
         obtain rfl : ad271 = ad273 := (by injection e273)
         obtain ⟨ce273, hce273, hMe273, hcc273⟩ := Kd.N_get HO_247005.out z34 0 p273 (by first | exact q273 | exact of_decide_eq_true (by first | (with_reducible assumption) | assumption) | (have e_ := (Kd.N_reads' HO_247005.out).1; omega))
         obtain ⟨ua273_3, uc273_3, ua273_5, uc273_5, rfl, ul273_3, ge273_3, ul273_5, ge273_5⟩ := k34_openF hMe273
         have hv273_3 := hcc273 3 _ rfl
         rw [add_field _ _ 3 (by omega)] at hv273_3
         replace hv273_3 := Option.some.inj (hv273_3.symm.trans hx273_3)
         injection hv273_3 with hva_ hvn_ hvc_
         rw [hva_] at ge273_3
         rw [hvc_] at ul273_3
         have HL273_3 := zzm (show Kd.V (Kd.int .i64) 3 _ w.heap.size _ _ ((rd_T34 t242 0).f3) from Kd.V_mk ul273_3 ge273_3)
         clear hva_ hvn_ hvc_ ge273_3 ul273_3
         have hv273_5 := hcc273 5 _ rfl
         rw [add_field _ _ 5 (by omega)] at hv273_5
         replace hv273_5 := Option.some.inj (hv273_5.symm.trans hx273_5)
         injection hv273_5 with hva_ hvn_ hvc_
         rw [hva_] at ge273_5
         rw [hvc_] at ul273_5
         have HL273_5 := zzm (show Kd.V (Kd.int .i64) 3 _ w.heap.size _ _ ((rd_T34 t242 0).f5) from Kd.V_mk ul273_5 ge273_5)
         clear hva_ hvn_ hvc_ ge273_5 ul273_5
         clear hcc273 hce273
         have qi273 : (0 < t242.length) = True := eq_true (by omega)
         (try rw [show ((0 : Int)).toNat = 0 from rfl] at hx273_0)
         (try rw [show 0 * 6 = 0 from rfl] at hx273_0)
         (try rw [Addr.add_zero'] at hx273_0)
         (try rw [show ((0 : Int)).toNat = 0 from rfl] at hx273_1)
         (try rw [show 0 * 6 = 0 from rfl] at hx273_1)
         (try rw [Addr.add_zero'] at hx273_1)
         (try rw [show ((0 : Int)).toNat = 0 from rfl] at hx273_2)
         (try rw [show 0 * 6 = 0 from rfl] at hx273_2)
         (try rw [Addr.add_zero'] at hx273_2)
         (try rw [show ((0 : Int)).toNat = 0 from rfl] at hx273_3)
         (try rw [show 0 * 6 = 0 from rfl] at hx273_3)
         (try rw [Addr.add_zero'] at hx273_3)
         (try rw [show ((0 : Int)).toNat = 0 from rfl] at hx273_4)
         (try rw [show 0 * 6 = 0 from rfl] at hx273_4)
         (try rw [Addr.add_zero'] at hx273_4)
         (try rw [show ((0 : Int)).toNat = 0 from rfl] at hx273_5)
         (try rw [show 0 * 6 = 0 from rfl] at hx273_5)
         (try rw [Addr.add_zero'] at hx273_5)
         have HR273_3 := zzm hi273_3
         have HC273_3 := zzm hl273_3
         clear hi273_3 hl273_3
         have HR273_5 := zzm hi273_5
         have HC273_5 := zzm hl273_5
         clear hi273_5 hl273_5
         replace p273 := eq_true p273
         replace q273 := eq_true q273
         refine start_ (n := 16) (S := fun w' => w'.cell? ⟨gb268, 0, none⟩ = some (.bool t259) ∧ w'.cell? ⟨gb268, 1, none⟩ = some (.bool t260) ∧ w'.cell? ⟨gb268, 2, none⟩ = some (.int .i64 t261) ∧ w'.cell? ⟨gb268, 3, none⟩ = some (.int .i64 t262) ∧ w'.cell? ⟨gb268, 4, none⟩ = some (.int .i64 t263) ∧ w'.cell? ⟨gb268, 5, none⟩ = some (.slice (some ad269) t264.length co67) ∧ w'.cell? ⟨gb246, 0, none⟩ = some (.bool t237) ∧ w'.cell? ⟨gb246, 1, none⟩ = some (.bool t238) ∧ w'.cell? ⟨gb246, 2, none⟩ = some (.int .i64 t239) ∧ w'.cell? ⟨gb246, 3, none⟩ = some (.int .i64 t240) ∧ w'.cell? ⟨gb246, 4, none⟩ = some (.int .i64 t241) ∧ w'.cell? ⟨gb246, 5, none⟩ = some (.slice (some ad271) t242.length co11) ∧ w'.cell? ⟨gb270, 0, none⟩ = some (.int .i64 ((rd_T34 t264 0).f0)) ∧ w'.cell? ⟨gb270, 1, none⟩ = some (.int .i64 ((rd_T34 t264 0).f1)) ∧ w'.cell? ⟨gb270, 2, none⟩ = some (.bool ((rd_T34 t264 0).f2)) ∧ w'.cell? ⟨gb270, 3, none⟩ = some (.slice A269_3 ((rd_T34 t264 0).f3).length c269_3) ∧ w'.cell? ⟨gb270, 4, none⟩ = some (.bool ((rd_T34 t264 0).f4)) ∧ w'.cell? ⟨gb270, 5, none⟩ = some (.slice A271_5 ((rd_T34 t242 0).f5).length c271_5) ∧ w'.cell? ad271 = some (.int .i64 ((rd_T34 t242 0).f0)) ∧ w'.cell? ⟨ad271.block, ad271.off + 1, none⟩ = some (.int .i64 ((rd_T34 t242 0).f1)) ∧ w'.cell? ⟨ad271.block, ad271.off + 2, none⟩ = some (.bool ((rd_T34 t242 0).f2)) ∧ w'.cell? ⟨ad271.block, ad271.off + 3, none⟩ = some (.slice A273_3 ((rd_T34 t242 0).f3).length c273_3) ∧ w'.cell? ⟨ad271.block, ad271.off + 4, none⟩ = some (.bool ((rd_T34 t242 0).f4)) ∧ w'.cell? ⟨ad271.block, ad271.off + 5, none⟩ = some (.slice A273_5 ((rd_T34 t242 0).f5).length c273_5)) (ds := []) #[false, false, false, false, false, false, false, false, false, false, false, false, false, false, false, false] (by kernel_rfl) rfl rfl ⟨(zzk BK268.out 0).trans rfl, (zzk BK268.out 1).trans rfl, (zzk BK268.out 2).trans rfl, (zzk BK268.out 3).trans rfl, (zzk BK268.out 4).trans rfl, (zzk BK268.out 5).trans rfl, (zzk BK246.out 0).trans rfl, (zzk BK246.out 1).trans rfl, (zzk BK246.out 2).trans rfl, (zzk BK246.out 3).trans rfl, (zzk BK246.out 4).trans rfl, (zzk BK246.out 5).trans rfl, (zzk BK270.out 0).trans rfl, (zzk BK270.out 1).trans rfl, (zzk BK270.out 2).trans rfl, (zzk BK270.out 3).trans rfl, (zzk BK270.out 4).trans rfl, (zzk BK270.out 5).trans rfl, hx273_0, hx273_1, hx273_2, hx273_3, hx273_4, hx273_5⟩ (fun hHeld => ?_); refine with_tabW laws_FnMarkBatchTwo.tab11 laws_FnMarkBatchTwo.bits11 (fun HT_ HW_ => ?_)
         generalize w79.drew = w80 at HO_247005 HO_257005 HO266 HL269_3 HL269_5 HL271_3 HL271_5 BK246 BK256 BK268 BK270 HB HL273_3 HL273_5 HR273_3 HR273_5 hx273_0 hx273_1 hx273_2 hx273_3 hx273_4 hx273_5 hHeld ⊢
         refine pure_ (i := 0) (N := some 85) (v := ?_) (a' := ?_) #[true, false, false, false, false, false, false, false, false, false, false, false, false, false, false, false] rfl rfl (any_of HT_.out (by kernel_rfl)) (fun _ _ _ h => h) (Or.inl ⟨by rfl, ?_⟩) ?_ ?_
         rotate_left
         ·
          intro w'
          go_simp
          with_reducible rfl
         rotate_left
         ·
          simp only [Act.put, zzq, zzr, zzs, i64_w, i32_w]
          rfl
         refine pure_ (i := 1) (N := some 86) (v := ?_) (a' := ?_) #[true, true, false, false, false, false, false, false, false, false, false, false, false, false, false, false] rfl rfl (any_of HT_.out (by kernel_rfl)) (fun _ _ _ h => h) (Or.inl ⟨by rfl, ?_⟩) ?_ ?_
         rotate_left
         ·
          intro w'
          go_simp
          with_reducible rfl
         rotate_left
         ·
          simp only [Act.put, zzq, zzr, zzs, i64_w, i32_w]
          rfl
         refine take_ (i := 2) (N := some 87) (v := ?_) (a' := ?_) #[true, true, true, false, false, false, false, false, false, false, false, false, false, false, false, false] rfl rfl (take_ofW HT_.out HW_.out (by kernel_rfl)) (fun _ _ _ h => h) (Or.inl ⟨by rfl, ?_⟩) hHeld ?_ ?_
         rotate_left
         ·
          rintro w' ⟨s0, s1, s2, s3, s4, s5, s6, s7, s8, s9, s10, s11, s12, s13, s14, s15, s16, s17, s18, s19, s20, s21, s22, s23⟩
          go_simp
          with_reducible rfl
         rotate_left
         ·
          simp only [Act.put, zzq, zzr, zzs, i64_w, i32_w]
          rfl
         refine take_ (i := 3) (N := some 88) (v := ?_) (a' := ?_) #[true, true, true, true, false, false, false, false, false, false, false, false, false, false, false, false] rfl rfl (take_ofW HT_.out HW_.out (by kernel_rfl)) (fun _ _ _ h => h) (Or.inl ⟨by rfl, ?_⟩) hHeld ?_ ?_
         rotate_left
         ·
          rintro w' ⟨s0, s1, s2, s3, s4, s5, s6, s7, s8, s9, s10, s11, s12, s13, s14, s15, s16, s17, s18, s19, s20, s21, s22, s23⟩
          go_simp
          with_reducible rfl
         rotate_left
         ·
          simp only [Act.put, zzq, zzr, zzs, i64_w, i32_w]
          rfl
         refine one_ (i := 4) (N := some 89) #[true, true, true, true, true, false, false, false, false, false, false, false, false, false, false, false] rfl rfl (one_of HT_.out (by kernel_rfl)) (by decide) (fun K hK => ?_)
         refine goes_ Try.func21 (by kernel_rfl) rfl #[.agg #[.bool t259, .bool t260, .int .i64 t261, .int .i64 t262, .int .i64 t263, .slice (some ad269) t264.length co67], .agg #[.bool t237, .bool t238, .int .i64 t239, .int .i64 t240, .int .i64 t241, .slice (some ad271) t242.length co11]] (by rfl) rfl rfl (by (try simp only [List.map_toArray, List.map_cons, List.map_nil]); first | done | rfl | (simp only [List.length_drop, List.length_take]; rfl)) ?_
         with_reducible refine (laws_sameBatch.calls kj5 t259 t260 t261 t262 t263 _ _ t264 t237 t238 t239 t240 t241 _ _ t242 false _ ?side1 ?side2 ?side3 ?side4 A39.out).mono ?_
         (case side1 => repeat (first | exact (Kd.N_reads' HO266.out).2.2 | (with_reducible refine Kd.C_alloc ?_ _) | (with_reducible refine Kd.C_drewN ?_ _) | (with_reducible refine Kd.C_drew ?_)))
         (case side2 => exact (Kd.N_reads' HO266.out).2.1)
         (case side3 => repeat (first | exact (Kd.N_reads' HO_247005.out).2.2 | (with_reducible refine Kd.C_alloc ?_ _) | (with_reducible refine Kd.C_drewN ?_ _) | (with_reducible refine Kd.C_drew ?_)))
         (case side4 => exact (Kd.N_reads' HO_247005.out).2.1)
         rintro e w81 ⟨rfl, hb⟩
         have m0_ := zzm (Kd.V_below HL273_3.out hb)
         have m1_ := zzm (Kd.V_below HL273_5.out hb)
         have m2_ := zzm (Kd.C_below HR273_3.out hb)
         have m3_ := zzm (Kd.C_below HR273_5.out hb)
         clear HL273_3 HL273_5 HR273_3 HR273_5
         have HL273_3 := m0_
         have HL273_5 := m1_
         have HR273_3 := m2_
         have HR273_5 := m3_
         clear m0_ m1_ m2_ m3_
         have HS18_ := (hb.cell (zzn _ _ (hHeld.2.2.2.2.2.2.2.2.2.2.2.2.2.2.2.2.2.2.1))).trans (hHeld.2.2.2.2.2.2.2.2.2.2.2.2.2.2.2.2.2.2.1)
         have HS19_ := (hb.cell (zzn _ _ (hHeld.2.2.2.2.2.2.2.2.2.2.2.2.2.2.2.2.2.2.2.1))).trans (hHeld.2.2.2.2.2.2.2.2.2.2.2.2.2.2.2.2.2.2.2.1)
         have HS20_ := (hb.cell (zzn _ _ (hHeld.2.2.2.2.2.2.2.2.2.2.2.2.2.2.2.2.2.2.2.2.1))).trans (hHeld.2.2.2.2.2.2.2.2.2.2.2.2.2.2.2.2.2.2.2.2.1)
         have HS21_ := (hb.cell (zzn _ _ (hHeld.2.2.2.2.2.2.2.2.2.2.2.2.2.2.2.2.2.2.2.2.2.1))).trans (hHeld.2.2.2.2.2.2.2.2.2.2.2.2.2.2.2.2.2.2.2.2.2.1)
         have HS22_ := (hb.cell (zzn _ _ (hHeld.2.2.2.2.2.2.2.2.2.2.2.2.2.2.2.2.2.2.2.2.2.2.1))).trans (hHeld.2.2.2.2.2.2.2.2.2.2.2.2.2.2.2.2.2.2.2.2.2.2.1)
         have HS23_ := (hb.cell (zzn _ _ (hHeld.2.2.2.2.2.2.2.2.2.2.2.2.2.2.2.2.2.2.2.2.2.2.2))).trans (hHeld.2.2.2.2.2.2.2.2.2.2.2.2.2.2.2.2.2.2.2.2.2.2.2)
         refine ⟨_, rfl, ?_⟩
         have n0_ := zzm (Kd.N_below (by (with_reducible repeat (first | apply Kd.N_alloc | apply Kd.N_drewN | apply Kd.N_drew)); exact HO_247005.out) hb)
         have n1_ := zzm (Kd.N_below (by (with_reducible repeat (first | apply Kd.N_alloc | apply Kd.N_drewN | apply Kd.N_drew)); exact HO_257005.out) hb)
         have n2_ := zzm (Kd.N_below (by (with_reducible repeat (first | apply Kd.N_alloc | apply Kd.N_drewN | apply Kd.N_drew)); exact HO266.out) hb)
         have n3_ := zzm (Kd.V_below (by (with_reducible repeat (first | apply Kd.V_alloc | apply Kd.V_drewN | apply Kd.V_drew)); exact HL269_3.out) hb)
         have n4_ := zzm (Kd.V_below (by (with_reducible repeat (first | apply Kd.V_alloc | apply Kd.V_drewN | apply Kd.V_drew)); exact HL269_5.out) hb)
         have n5_ := zzm (Kd.V_below (by (with_reducible repeat (first | apply Kd.V_alloc | apply Kd.V_drewN | apply Kd.V_drew)); exact HL271_3.out) hb)
         have n6_ := zzm (Kd.V_below (by (with_reducible repeat (first | apply Kd.V_alloc | apply Kd.V_drewN | apply Kd.V_drew)); exact HL271_5.out) hb)
         have n7_ := zzm (zzh (g := gb246) (o := .cells #[.bool t237, .bool t238, .int .i64 t239, .int .i64 t240, .int .i64 t241, .slice (some ad271) t242.length co11] 27 (0, 0)) (by (with_reducible repeat (first | refine zzf ?_ _ | refine zzg ?_ | refine zze ?_ _)); exact BK246.out) hb)
         have n8_ := zzm (zzh (g := gb256) (o := .cells #[.bool t247, .bool t248, .int .i64 t249, .int .i64 t250, .int .i64 t251, .slice Ao16 t252.length co16] 27 (0, 0)) (by (with_reducible repeat (first | refine zzf ?_ _ | refine zzg ?_ | refine zze ?_ _)); exact BK256.out) hb)
         have n9_ := zzm (zzh (g := gb268) (o := .cells #[.bool t259, .bool t260, .int .i64 t261, .int .i64 t262, .int .i64 t263, .slice (some ad269) t264.length co67] 27 (0, 0)) (by (with_reducible repeat (first | refine zzf ?_ _ | refine zzg ?_ | refine zze ?_ _)); exact BK268.out) hb)
         have n10_ := zzm (zzh (g := gb270) (o := .cells #[.int .i64 ((rd_T34 t264 0).f0), .int .i64 ((rd_T34 t264 0).f1), .bool ((rd_T34 t264 0).f2), .slice A269_3 ((rd_T34 t264 0).f3).length c269_3, .bool ((rd_T34 t264 0).f4), .slice A271_5 ((rd_T34 t242 0).f5).length c271_5] 34 (0, 0)) (by (with_reducible repeat (first | refine zzf ?_ _ | refine zzg ?_ | refine zze ?_ _)); exact BK270.out) hb)
         have n11_ := zzm (zzp (by repeat (first | (with_reducible first | exact HB.out | apply zza | apply zzb | apply zzc | refine zzd ?_ GE246.out | refine zzd ?_ GE256.out | refine zzd ?_ GE268.out | refine zzd ?_ GE270.out) | exact HB.out)) hb)
         clear HO_247005
         clear HO_257005
         clear HO266
         clear HL269_3
         clear HL269_5
         clear HL271_3
         clear HL271_5
         clear BK246
         clear BK256
         clear BK268
         clear BK270
         clear HB
         have HO_247005 := n0_
         have HO_257005 := n1_
         have HO266 := n2_
         have HL269_3 := n3_
         have HL269_5 := n4_
         have HL271_3 := n5_
         have HL271_5 := n6_
         have BK246 := n7_
         have BK256 := n8_
         have BK268 := n9_
         have BK270 := n10_
         have HB := n11_
         clear n0_ n1_ n2_ n3_ n4_ n5_ n6_ n7_ n8_ n9_ n10_ n11_
         (try clear hb)
         (try clear hb2)
         (try clear hk)
         (try clear hi)
         refine hK.out _ _ ⟨(zzk BK268.out 0).trans rfl, (zzk BK268.out 1).trans rfl, (zzk BK268.out 2).trans rfl, (zzk BK268.out 3).trans rfl, (zzk BK268.out 4).trans rfl, (zzk BK268.out 5).trans rfl, (zzk BK246.out 0).trans rfl, (zzk BK246.out 1).trans rfl, (zzk BK246.out 2).trans rfl, (zzk BK246.out 3).trans rfl, (zzk BK246.out 4).trans rfl, (zzk BK246.out 5).trans rfl, (zzk BK270.out 0).trans rfl, (zzk BK270.out 1).trans rfl, (zzk BK270.out 2).trans rfl, (zzk BK270.out 3).trans rfl, (zzk BK270.out 4).trans rfl, (zzk BK270.out 5).trans rfl, HS18_, HS19_, HS20_, HS21_, HS22_, HS23_⟩ (fun hHeld => ?_)
         clear hK K
         refine norm_ (a' := ?_) ?_ ?_
         rotate_left
         ·
          show Act.put _ (some 89) _ = _
          simp only [Act.put, zzq, zzr, zzs, i64_w, i32_w]
          rfl
         refine pure_ (i := 5) (N := some 90) (v := ?_) (a' := ?_) #[true, true, true, true, true, true, false, false, false, false, false, false, false, false, false, false] rfl rfl (any_of HT_.out (by kernel_rfl)) (fun _ _ _ h => h) (Or.inl ⟨by rfl, ?_⟩) ?_ ?_
         rotate_left
         ·
          intro w'
          go_simp
          with_reducible rfl
         rotate_left
         ·
          simp only [Act.put, zzq, zzr, zzs, i64_w, i32_w]
          rfl
         refine pure_ (i := 6) (N := some 91) (v := ?_) (a' := ?_) #[true, true, true, true, true, true, true, false, false, false, false, false, false, false, false, false] rfl rfl (any_of HT_.out (by kernel_rfl)) (fun _ _ _ h => h) (Or.inl ⟨by rfl, ?_⟩) ?_ ?_
         rotate_left
         ·
          intro w'
          go_simp
          with_reducible rfl
         rotate_left
         ·
          simp only [Act.put, zzq, zzr, zzs, i64_w, i32_w]
          rfl
         refine pure_ (i := 7) (N := some 92) (v := ?_) (a' := ?_) #[true, true, true, true, true, true, true, true, false, false, false, false, false, false, false, false] rfl rfl (any_of HT_.out (by kernel_rfl)) (fun _ _ _ h => h) (Or.inl ⟨by rfl, ?_⟩) ?_ ?_
         rotate_left
         ·
          intro w'
          go_simp
          with_reducible rfl
         rotate_left
         ·
          simp only [Act.put, zzq, zzr, zzs, i64_w, i32_w]
          rfl
         refine pure_ (i := 9) (N := some 94) (v := ?_) (a' := ?_) #[true, true, true, true, true, true, true, true, false, true, false, false, false, false, false, false] rfl rfl (any_of HT_.out (by kernel_rfl)) (fun _ _ _ h => h) (Or.inl ⟨by rfl, ?_⟩) ?_ ?_
         rotate_left
         ·
          intro w'
          go_simp
          with_reducible rfl
         rotate_left
         ·
          simp only [Act.put, zzq, zzr, zzs, i64_w, i32_w]
          rfl
         refine take_ (i := 8) (N := some 93) (v := ?_) (a' := ?_) #[true, true, true, true, true, true, true, true, true, true, false, false, false, false, false, false] rfl rfl (take_ofW HT_.out HW_.out (by kernel_rfl)) (fun _ _ _ h => h) (Or.inl ⟨by rfl, ?_⟩) hHeld ?_ ?_
         rotate_left
         ·
          rintro w' ⟨s0, s1, s2, s3, s4, s5, s6, s7, s8, s9, s10, s11, s12, s13, s14, s15, s16, s17, s18, s19, s20, s21, s22, s23⟩
          go_simp
          with_reducible rfl
         rotate_left
         ·
          simp only [Act.put, zzq, zzr, zzs, i64_w, i32_w]
          rfl
         refine take_ (i := 10) (N := some 95) (v := ?_) (a' := ?_) #[true, true, true, true, true, true, true, true, true, true, true, false, false, false, false, false] rfl rfl (take_ofW HT_.out HW_.out (by kernel_rfl)) (fun _ _ _ h => h) (Or.inl ⟨by rfl, ?_⟩) hHeld ?_ ?_
         rotate_left
         ·
          rintro w' ⟨s0, s1, s2, s3, s4, s5, s6, s7, s8, s9, s10, s11, s12, s13, s14, s15, s16, s17, s18, s19, s20, s21, s22, s23⟩
          go_simp
          with_reducible rfl
         rotate_left
         ·
          simp only [Act.put, zzq, zzr, zzs, i64_w, i32_w]
          rfl
         refine pure_ (i := 11) (N := some 96) (v := ?_) (a' := ?_) #[true, true, true, true, true, true, true, true, true, true, true, true, false, false, false, false] rfl rfl (any_of HT_.out (by kernel_rfl)) (fun _ _ _ h => h) (Or.inl ⟨by rfl, ?_⟩) ?_ ?_
         rotate_left
         ·
          intro w'
          go_simp
          with_reducible rfl
         rotate_left
         ·
          simp only [Act.put, zzq, zzr, zzs, i64_w, i32_w]
          rfl
         refine take_ (i := 12) (N := some 97) (v := ?_) (a' := ?_) #[true, true, true, true, true, true, true, true, true, true, true, true, true, false, false, false] rfl rfl (take_ofW HT_.out HW_.out (by kernel_rfl)) (fun _ _ _ h => h) (Or.inl ⟨by rfl, ?_⟩) hHeld ?_ ?_
         rotate_left
         ·
          rintro w' ⟨s0, s1, s2, s3, s4, s5, s6, s7, s8, s9, s10, s11, s12, s13, s14, s15, s16, s17, s18, s19, s20, s21, s22, s23⟩
          go_simp
          with_reducible rfl
         rotate_left
         ·
          simp only [Act.put, zzq, zzr, zzs, i64_w, i32_w]
          rfl
         refine one_ (i := 13) (N := some 98) #[true, true, true, true, true, true, true, true, true, true, true, true, true, true, false, false] rfl rfl (one_of HT_.out (by kernel_rfl)) (by decide) (fun K hK => ?_)
         refine goes_ Try.func23 (by kernel_rfl) rfl #[.agg #[.int .i64 ((rd_T34 t264 0).f0), .int .i64 ((rd_T34 t264 0).f1), .bool ((rd_T34 t264 0).f2), .slice A269_3 ((rd_T34 t264 0).f3).length c269_3, .bool ((rd_T34 t264 0).f4), .slice A271_5 ((rd_T34 t242 0).f5).length c271_5], .agg #[.int .i64 ((rd_T34 t242 0).f0), .int .i64 ((rd_T34 t242 0).f1), .bool ((rd_T34 t242 0).f2), .slice A273_3 ((rd_T34 t242 0).f3).length c273_3, .bool ((rd_T34 t242 0).f4), .slice A273_5 ((rd_T34 t242 0).f5).length c273_5]] (by rfl) rfl rfl (by (try simp only [List.map_toArray, List.map_cons, List.map_nil]); first | done | rfl | (simp only [List.length_drop, List.length_take]; rfl)) ?_
         with_reducible refine (laws_sameRecord.calls kj5 ((rd_T34 t264 0).f0) ((rd_T34 t264 0).f1) ((rd_T34 t264 0).f2) _ _ ((rd_T34 t264 0).f3) ((rd_T34 t264 0).f4) _ _ ((rd_T34 t242 0).f5) ((rd_T34 t242 0).f0) ((rd_T34 t242 0).f1) ((rd_T34 t242 0).f2) _ _ ((rd_T34 t242 0).f3) ((rd_T34 t242 0).f4) _ _ ((rd_T34 t242 0).f5) t274 _ ?side1 ?side2 ?side3 ?side4 ?side5 ?side6 ?side7 ?side8 A61.out).mono ?_
         (case side1 => repeat (first | exact ((Kd.V_reads' (by (with_reducible repeat (first | apply Kd.V_alloc | apply Kd.V_drewN | apply Kd.V_drew)); exact HL269_3.out)).2.2) | (with_reducible refine Kd.C_alloc ?_ _) | (with_reducible refine Kd.C_drewN ?_ _) | (with_reducible refine Kd.C_drew ?_)))
         (case side2 => exact HC269_3.out)
         (case side3 => repeat (first | exact ((Kd.V_reads' (by (with_reducible repeat (first | apply Kd.V_alloc | apply Kd.V_drewN | apply Kd.V_drew)); exact HL271_5.out)).2.2) | (with_reducible refine Kd.C_alloc ?_ _) | (with_reducible refine Kd.C_drewN ?_ _) | (with_reducible refine Kd.C_drew ?_)))
         (case side4 => exact HC271_5.out)
         (case side5 => repeat (first | exact (by repeat (first | (with_reducible exact HR273_3.out) | (with_reducible refine Kd.C_alloc ?_ _) | (with_reducible refine Kd.C_drewN ?_ _) | (with_reducible refine Kd.C_drew ?_) | exact HR273_3.out)) | (with_reducible refine Kd.C_alloc ?_ _) | (with_reducible refine Kd.C_drewN ?_ _) | (with_reducible refine Kd.C_drew ?_)))
         (case side6 => exact HC273_3.out)
         (case side7 => repeat (first | exact (by repeat (first | (with_reducible exact HR273_5.out) | (with_reducible refine Kd.C_alloc ?_ _) | (with_reducible refine Kd.C_drewN ?_ _) | (with_reducible refine Kd.C_drew ?_) | exact HR273_5.out)) | (with_reducible refine Kd.C_alloc ?_ _) | (with_reducible refine Kd.C_drewN ?_ _) | (with_reducible refine Kd.C_drew ?_)))
         (case side8 => exact HC273_5.out)
         rintro e w82 ⟨rfl, hb⟩
         have HS18_ := (hb.cell (zzn _ _ (hHeld.2.2.2.2.2.2.2.2.2.2.2.2.2.2.2.2.2.2.1))).trans (hHeld.2.2.2.2.2.2.2.2.2.2.2.2.2.2.2.2.2.2.1)
         have HS19_ := (hb.cell (zzn _ _ (hHeld.2.2.2.2.2.2.2.2.2.2.2.2.2.2.2.2.2.2.2.1))).trans (hHeld.2.2.2.2.2.2.2.2.2.2.2.2.2.2.2.2.2.2.2.1)
         have HS20_ := (hb.cell (zzn _ _ (hHeld.2.2.2.2.2.2.2.2.2.2.2.2.2.2.2.2.2.2.2.2.1))).trans (hHeld.2.2.2.2.2.2.2.2.2.2.2.2.2.2.2.2.2.2.2.2.1)
         have HS21_ := (hb.cell (zzn _ _ (hHeld.2.2.2.2.2.2.2.2.2.2.2.2.2.2.2.2.2.2.2.2.2.1))).trans (hHeld.2.2.2.2.2.2.2.2.2.2.2.2.2.2.2.2.2.2.2.2.2.1)
         have HS22_ := (hb.cell (zzn _ _ (hHeld.2.2.2.2.2.2.2.2.2.2.2.2.2.2.2.2.2.2.2.2.2.2.1))).trans (hHeld.2.2.2.2.2.2.2.2.2.2.2.2.2.2.2.2.2.2.2.2.2.2.1)
         have HS23_ := (hb.cell (zzn _ _ (hHeld.2.2.2.2.2.2.2.2.2.2.2.2.2.2.2.2.2.2.2.2.2.2.2))).trans (hHeld.2.2.2.2.2.2.2.2.2.2.2.2.2.2.2.2.2.2.2.2.2.2.2)
         refine ⟨_, rfl, ?_⟩
         have n0_ := zzm (Kd.N_below (by (with_reducible repeat (first | apply Kd.N_alloc | apply Kd.N_drewN | apply Kd.N_drew)); exact HO_247005.out) hb)
         have n1_ := zzm (Kd.N_below (by (with_reducible repeat (first | apply Kd.N_alloc | apply Kd.N_drewN | apply Kd.N_drew)); exact HO_257005.out) hb)
         have n2_ := zzm (Kd.N_below (by (with_reducible repeat (first | apply Kd.N_alloc | apply Kd.N_drewN | apply Kd.N_drew)); exact HO266.out) hb)
         have n3_ := zzm (Kd.V_below (by (with_reducible repeat (first | apply Kd.V_alloc | apply Kd.V_drewN | apply Kd.V_drew)); exact HL269_3.out) hb)
         have n4_ := zzm (Kd.V_below (by (with_reducible repeat (first | apply Kd.V_alloc | apply Kd.V_drewN | apply Kd.V_drew)); exact HL269_5.out) hb)
         have n5_ := zzm (Kd.V_below (by (with_reducible repeat (first | apply Kd.V_alloc | apply Kd.V_drewN | apply Kd.V_drew)); exact HL271_3.out) hb)
         have n6_ := zzm (Kd.V_below (by (with_reducible repeat (first | apply Kd.V_alloc | apply Kd.V_drewN | apply Kd.V_drew)); exact HL271_5.out) hb)
         have n7_ := zzm (Kd.V_below (by (with_reducible repeat (first | apply Kd.V_alloc | apply Kd.V_drewN | apply Kd.V_drew)); exact HL273_3.out) hb)
         have n8_ := zzm (Kd.V_below (by (with_reducible repeat (first | apply Kd.V_alloc | apply Kd.V_drewN | apply Kd.V_drew)); exact HL273_5.out) hb)
         have n9_ := zzm (zzh (g := gb246) (o := .cells #[.bool t237, .bool t238, .int .i64 t239, .int .i64 t240, .int .i64 t241, .slice (some ad271) t242.length co11] 27 (0, 0)) (by (with_reducible repeat (first | refine zzf ?_ _ | refine zzg ?_ | refine zze ?_ _)); exact BK246.out) hb)
         have n10_ := zzm (zzh (g := gb256) (o := .cells #[.bool t247, .bool t248, .int .i64 t249, .int .i64 t250, .int .i64 t251, .slice Ao16 t252.length co16] 27 (0, 0)) (by (with_reducible repeat (first | refine zzf ?_ _ | refine zzg ?_ | refine zze ?_ _)); exact BK256.out) hb)
         have n11_ := zzm (zzh (g := gb268) (o := .cells #[.bool t259, .bool t260, .int .i64 t261, .int .i64 t262, .int .i64 t263, .slice (some ad269) t264.length co67] 27 (0, 0)) (by (with_reducible repeat (first | refine zzf ?_ _ | refine zzg ?_ | refine zze ?_ _)); exact BK268.out) hb)
         have n12_ := zzm (zzh (g := gb270) (o := .cells #[.int .i64 ((rd_T34 t264 0).f0), .int .i64 ((rd_T34 t264 0).f1), .bool ((rd_T34 t264 0).f2), .slice A269_3 ((rd_T34 t264 0).f3).length c269_3, .bool ((rd_T34 t264 0).f4), .slice A271_5 ((rd_T34 t242 0).f5).length c271_5] 34 (0, 0)) (by (with_reducible repeat (first | refine zzf ?_ _ | refine zzg ?_ | refine zze ?_ _)); exact BK270.out) hb)
         have n13_ := zzm (Kd.C_below (by repeat (first | (with_reducible exact HR273_3.out) | (with_reducible refine Kd.C_alloc ?_ _) | (with_reducible refine Kd.C_drewN ?_ _) | (with_reducible refine Kd.C_drew ?_) | exact HR273_3.out)) hb)
         have n14_ := zzm (Kd.C_below (by repeat (first | (with_reducible exact HR273_5.out) | (with_reducible refine Kd.C_alloc ?_ _) | (with_reducible refine Kd.C_drewN ?_ _) | (with_reducible refine Kd.C_drew ?_) | exact HR273_5.out)) hb)
         have n15_ := zzm (zzp (by repeat (first | (with_reducible first | exact HB.out | apply zza | apply zzb | apply zzc | refine zzd ?_ GE246.out | refine zzd ?_ GE256.out | refine zzd ?_ GE268.out | refine zzd ?_ GE270.out) | exact HB.out)) hb)
         clear HO_247005
         clear HO_257005
         clear HO266
         clear HL269_3
         clear HL269_5
         clear HL271_3
         clear HL271_5
         clear HL273_3
         clear HL273_5
         clear BK246
         clear BK256
         clear BK268
         clear BK270
         clear HR273_3
         clear HR273_5
         clear HB
         have HO_247005 := n0_
         have HO_257005 := n1_
         have HO266 := n2_
         have HL269_3 := n3_
         have HL269_5 := n4_
         have HL271_3 := n5_
         have HL271_5 := n6_
         have HL273_3 := n7_
         have HL273_5 := n8_
         have BK246 := n9_
         have BK256 := n10_
         have BK268 := n11_
         have BK270 := n12_
         have HR273_3 := n13_
         have HR273_5 := n14_
         have HB := n15_
         clear n0_ n1_ n2_ n3_ n4_ n5_ n6_ n7_ n8_ n9_ n10_ n11_ n12_ n13_ n14_ n15_
         (try clear hb)
         (try clear hb2)
         (try clear hk)
         (try clear hi)
         refine hK.out _ _ ⟨(zzk BK268.out 0).trans rfl, (zzk BK268.out 1).trans rfl, (zzk BK268.out 2).trans rfl, (zzk BK268.out 3).trans rfl, (zzk BK268.out 4).trans rfl, (zzk BK268.out 5).trans rfl, (zzk BK246.out 0).trans rfl, (zzk BK246.out 1).trans rfl, (zzk BK246.out 2).trans rfl, (zzk BK246.out 3).trans rfl, (zzk BK246.out 4).trans rfl, (zzk BK246.out 5).trans rfl, (zzk BK270.out 0).trans rfl, (zzk BK270.out 1).trans rfl, (zzk BK270.out 2).trans rfl, (zzk BK270.out 3).trans rfl, (zzk BK270.out 4).trans rfl, (zzk BK270.out 5).trans rfl, HS18_, HS19_, HS20_, HS21_, HS22_, HS23_⟩ (fun hHeld => ?_)
         clear hK K
         refine norm_ (a' := ?_) ?_ ?_
         rotate_left
         ·
          show Act.put _ (some 98) _ = _
          simp only [Act.put, zzq, zzr, zzs, i64_w, i32_w]
          rfl
         refine pure_ (i := 14) (N := some 99) (v := ?_) (a' := ?_) #[true, true, true, true, true, true, true, true, true, true, true, true, true, true, true, false] rfl rfl (any_of HT_.out (by kernel_rfl)) (fun _ _ _ h => h) (Or.inl ⟨by rfl, ?_⟩) ?_ ?_
         rotate_left
         ·
          intro w'
          go_simp
          with_reducible rfl
         rotate_left
         ·
          simp only [Act.put, zzq, zzr, zzs, i64_w, i32_w]
          rfl
         refine pure_ (i := 15) (N := some 2) (v := ?_) (a' := ?_) #[true, true, true, true, true, true, true, true, true, true, true, true, true, true, true, true] rfl rfl (any_of HT_.out (by kernel_rfl)) (fun _ _ _ h => h) (Or.inl ⟨by rfl, ?_⟩) ?_ ?_
         rotate_left
         ·
          intro w'
          go_simp
          with_reducible rfl
         rotate_left
         ·
          simp only [Act.put, zzq, zzr, zzs, i64_w, i32_w]
          rfl
         refine done_ (done_of HT_.out (by kernel_rfl)) ?_
         try go_wp2
         go_ret
         exact ⟨by first | rfl | (simp [errW_none, errW_some] <;> rfl) | (simp [*, errW_none, errW_some] <;> rfl), by repeat (first | (with_reducible first | exact HB.out | apply zza | apply zzb | apply zzc | refine zzd ?_ GE246.out | refine zzd ?_ GE256.out | refine zzd ?_ GE268.out | refine zzd ?_ GE270.out) | exact HB.out)⟩
       ·
        replace c38 := Bool.eq_false_iff.mpr c38
        subst c38
        have H1 : (some false) = some r := by rw [if_neg (show ¬ (false = true) by decide)] at H; exact H
        clear H
        have H := H1
        clear H1
        obtain rfl := Option.some.inj H
        try go_wp2_with (first | ((with_reducible refine gate_callee (f := 19) rfl ?_); refine goesL_ (some 72) rfl rfl Try.func19 (by kernel_rfl) rfl #[.int .i64 t232, .int .i64 t233, .int .i64 t234, .int .i64 t235, .bool (!t236)] rfl (by (try simp only [List.map_toArray, List.map_cons, List.map_nil]); first | done | rfl | (simp only [List.length_drop, List.length_take]; rfl)) ?_; (with_reducible refine (impl_MarkBatch.calls kj5 t232 t233 t234 t235 (!t236) t259 t260 t261 t262 t263 t264 false _ A35.out).mono ?_); rintro e w83 ⟨v265, rfl, ho0, hb⟩; refine ⟨_, rfl, ?_⟩; have n0_ := zzm (Kd.N_elder' (by (with_reducible repeat (first | apply Kd.N_alloc | apply Kd.N_drewN | apply Kd.N_drew)); exact HO_247005.out) (Kd.N_base ho0) hb); have n1_ := zzm (Kd.N_elder' (by (with_reducible repeat (first | apply Kd.N_alloc | apply Kd.N_drewN | apply Kd.N_drew)); exact HO_257005.out) (Kd.N_base ho0) hb); have n2_ := zzm (Kd.N_lower (Kd.N_mono (ok' := fun k_ => some k_ ≠ (.slice Ao11 t242.length co11 : Value).ownBlock ∧ some k_ ≠ (.slice Ao16 t252.length co16 : Value).ownBlock ∧ k_ ≠ gb246 ∧ k_ ≠ gb256) ho0 (fun k_ hk_ => ⟨(Kd.fresh' (Kd.N_lt (by (with_reducible repeat (first | apply Kd.N_alloc | apply Kd.N_drewN | apply Kd.N_drew)); exact HO_247005.out)) k_ hk_), (Kd.fresh' (Kd.N_lt (by (with_reducible repeat (first | apply Kd.N_alloc | apply Kd.N_drewN | apply Kd.N_drew)); exact HO_257005.out)) k_ hk_), (Kd.freshB (g := gb246) (o := .cells #[.bool t237, .bool t238, .int .i64 t239, .int .i64 t240, .int .i64 t241, .slice Ao11 t242.length co11] 27 (0, 0)) (by (with_reducible repeat (first | refine zzf ?_ _ | refine zzg ?_ | refine zze ?_ _)); exact BK246.out) k_ hk_), (Kd.freshB (g := gb256) (o := .cells #[.bool t247, .bool t248, .int .i64 t249, .int .i64 t250, .int .i64 t251, .slice Ao16 t252.length co16] 27 (0, 0)) (by (with_reducible repeat (first | refine zzf ?_ _ | refine zzg ?_ | refine zze ?_ _)); exact BK256.out) k_ hk_)⟩)) (zzo (by repeat (first | (with_reducible first | exact HB.out | apply zza | apply zzb | apply zzc | refine zzd ?_ GE246.out | refine zzd ?_ GE256.out) | exact HB.out)))); have n3_ := zzm (zzh (g := gb246) (o := .cells #[.bool t237, .bool t238, .int .i64 t239, .int .i64 t240, .int .i64 t241, .slice Ao11 t242.length co11] 27 (0, 0)) (by (with_reducible repeat (first | refine zzf ?_ _ | refine zzg ?_ | refine zze ?_ _)); exact BK246.out) hb); have n4_ := zzm (zzh (g := gb256) (o := .cells #[.bool t247, .bool t248, .int .i64 t249, .int .i64 t250, .int .i64 t251, .slice Ao16 t252.length co16] 27 (0, 0)) (by (with_reducible repeat (first | refine zzf ?_ _ | refine zzg ?_ | refine zze ?_ _)); exact BK256.out) hb); have n5_ := zzm (zzp (by repeat (first | (with_reducible first | exact HB.out | apply zza | apply zzb | apply zzc | refine zzd ?_ GE246.out | refine zzd ?_ GE256.out) | exact HB.out)) hb); clear HO_247005 HO_257005 BK246 BK256 HB; have HO_247005 := n0_; have HO_257005 := n1_; have HO266 := n2_; have BK246 := n3_; have BK256 := n4_; have HB := n5_; clear n0_ n1_ n2_ n3_ n4_ n5_; (try clear hb); (try clear hb2); (try clear hk); (try clear hi); (try clear ho0)) | ((with_reducible refine gate_dst (N := 12) rfl ?_); refine box_event ?hg (N := 12) ?hd (cs := #[.bool false, .bool false, .int .i64 0, .int .i64 0, .int .i64 0, .slice none 0 0]) (t := 27) ?hr ?_; (case hd => rfl); (case hg => rfl); (case hr => first | (go_simp; done) | (go_simp; rfl)); intro gb268 hg w84 hbox hb; have n0_ := zzm (Kd.N_below (Kd.N_elderB (by (with_reducible repeat (first | apply Kd.N_alloc | apply Kd.N_drewN | apply Kd.N_drew)); exact HO_247005.out) gb268 (Nat.le_of_eq hg.symm)) hb); have n1_ := zzm (Kd.N_below (Kd.N_elderB (by (with_reducible repeat (first | apply Kd.N_alloc | apply Kd.N_drewN | apply Kd.N_drew)); exact HO_257005.out) gb268 (Nat.le_of_eq hg.symm)) hb); have n2_ := zzm (Kd.N_below (Kd.N_elderB (by (with_reducible repeat (first | apply Kd.N_alloc | apply Kd.N_drewN | apply Kd.N_drew)); exact HO266.out) gb268 (Nat.le_of_eq hg.symm)) hb); have n3_ := zzm (zzh (g := gb246) (o := .cells #[.bool t237, .bool t238, .int .i64 t239, .int .i64 t240, .int .i64 t241, .slice Ao11 t242.length co11] 27 (0, 0)) (by (with_reducible repeat (first | refine zzf ?_ _ | refine zzg ?_ | refine zze ?_ _)); exact BK246.out) hb); have n4_ := zzm (zzh (g := gb256) (o := .cells #[.bool t247, .bool t248, .int .i64 t249, .int .i64 t250, .int .i64 t251, .slice Ao16 t252.length co16] 27 (0, 0)) (by (with_reducible repeat (first | refine zzf ?_ _ | refine zzg ?_ | refine zze ?_ _)); exact BK256.out) hb); have n5_ := zzm (zzp (by repeat (first | (with_reducible first | exact HB.out | apply zza | apply zzb | apply zzc | refine zzd ?_ GE246.out | refine zzd ?_ GE256.out) | exact HB.out)) hb); have n6_ := zzm (hbox); have n7_ := zzm ((by rw [hg]; exact (zzo (by repeat (first | (with_reducible first | exact HB.out | apply zza | apply zzb | apply zzc | refine zzd ?_ GE246.out | refine zzd ?_ GE256.out) | exact HB.out))) : w.heap.size ≤ gb268)); have n8_ := zzm ((by rw [hg]; exact (zzo (by repeat (first | (with_reducible first | exact HB.out | apply zza | apply zzb | apply zzc | refine zzd ?_ GE246.out | refine zzd ?_ GE256.out) | exact HB.out))) : w.heap.size ≤ gb268)); have n9_ := zzm ((by rw [hg]; exact Nat.ne_of_lt (blk_lt (g := gb246) (o := .cells #[.bool t237, .bool t238, .int .i64 t239, .int .i64 t240, .int .i64 t241, .slice Ao11 t242.length co11] 27 (0, 0)) (by (with_reducible repeat (first | refine zzf ?_ _ | refine zzg ?_ | refine zze ?_ _)); exact BK246.out)) : gb246 ≠ gb268)); have n10_ := zzm ((by rw [hg]; exact Nat.ne_of_gt (blk_lt (g := gb246) (o := .cells #[.bool t237, .bool t238, .int .i64 t239, .int .i64 t240, .int .i64 t241, .slice Ao11 t242.length co11] 27 (0, 0)) (by (with_reducible repeat (first | refine zzf ?_ _ | refine zzg ?_ | refine zze ?_ _)); exact BK246.out)) : gb268 ≠ gb246)); have n11_ := zzm ((by rw [hg]; exact Nat.ne_of_lt (blk_lt (g := gb256) (o := .cells #[.bool t247, .bool t248, .int .i64 t249, .int .i64 t250, .int .i64 t251, .slice Ao16 t252.length co16] 27 (0, 0)) (by (with_reducible repeat (first | refine zzf ?_ _ | refine zzg ?_ | refine zze ?_ _)); exact BK256.out)) : gb256 ≠ gb268)); have n12_ := zzm ((by rw [hg]; exact Nat.ne_of_gt (blk_lt (g := gb256) (o := .cells #[.bool t247, .bool t248, .int .i64 t249, .int .i64 t250, .int .i64 t251, .slice Ao16 t252.length co16] 27 (0, 0)) (by (with_reducible repeat (first | refine zzf ?_ _ | refine zzg ?_ | refine zze ?_ _)); exact BK256.out)) : gb268 ≠ gb256)); clear HO_247005 HO_257005 HO266 BK246 BK256 HB; have HO_247005 := n0_; have HO_257005 := n1_; have HO266 := n2_; have BK246 := n3_; have BK256 := n4_; have HB := n5_; have BK268 := n6_; have GW268 := n7_; have GE268 := n8_; have NB246_268 := n9_; have NB268_246 := n10_; have NB256_268 := n11_; have NB268_256 := n12_; clear n0_ n1_ n2_ n3_ n4_ n5_ n6_ n7_ n8_ n9_ n10_ n11_ n12_ hb hbox hg; have hnb85 := NB268_246.out; have hnc85 := NB246_268.out; have hnb86 := NB268_256.out; have hnc86 := NB256_268.out; obtain ⟨hcz87_0, hcz87_1, hcz87_2, hcz87_3, hcz87_4, hcz87_5, hfz87_0, hfz87_1, hfz87_2, hfz87_3, hfz87_4, hfz87_5⟩ := zzc6 BK268.out; obtain ⟨Ao88, co88, eo88⟩ := Kd.N_slice HO266.out; subst eo88) | ((with_reducible refine gate_store (t := 27) (p := 12) rfl ?_); refine store_event (t := 27) (p := 12) (v := ?vo_w89) (w1 := ((((((w84.setCell ⟨gb268, 0, none⟩ (.bool t259)).setCell ⟨gb268, 1, none⟩ (.bool t260)).setCell ⟨gb268, 2, none⟩ (.int .i64 t261)).setCell ⟨gb268, 3, none⟩ (.int .i64 t262)).setCell ⟨gb268, 4, none⟩ (.int .i64 t263)).setCell ⟨gb268, 5, none⟩ (.slice Ao88 t264.length co88))) ?hg ?ho ?hn ?hr ?_; (case ho => rfl); (case hg => rfl); (case hn => rfl); (case hr => first | (go_simp; done) | (go_simp; rfl)); intro w89 hw; have n0_ : Aside0 (Kd.N k34 34 w89 w.heap.size (fun k_ => some k_ ≠ (.slice Ao16 t252.length co16 : Value).ownBlock ∧ some k_ ≠ (.slice Ao88 t264.length co88 : Value).ownBlock ∧ k_ ≠ gb246 ∧ k_ ≠ gb256 ∧ k_ ≠ gb268) (.slice Ao11 t242.length co11) t242) := ⟨(by rw [hw]; exact (by (with_reducible repeat (first | apply Kd.N_alloc | apply Kd.N_drewN | apply Kd.N_drew)); exact Kd.N_mono (Kd.N_far (p := ⟨gb268, 5, none⟩) (Kd.N_far (p := ⟨gb268, 4, none⟩) (Kd.N_far (p := ⟨gb268, 3, none⟩) (Kd.N_far (p := ⟨gb268, 2, none⟩) (Kd.N_far (p := ⟨gb268, 1, none⟩) (Kd.N_far (p := ⟨gb268, 0, none⟩) (Kd.N_mono HO_247005.out (fun k_ hk => (⟨hk, hk.2⟩ : _ ∧ k_ ≠ gb268))) (fun _ hk => hk.2) (.bool t259)) (fun _ hk => hk.2) (.bool t260)) (fun _ hk => hk.2) (.int .i64 t261)) (fun _ hk => hk.2) (.int .i64 t262)) (fun _ hk => hk.2) (.int .i64 t263)) (fun _ hk => hk.2) (.slice Ao88 t264.length co88)) (fun _ hk => ⟨hk.1.1.1.1, ⟨hk.1.1.2, ⟨hk.1.1.1.2.1, ⟨hk.1.1.1.2.2, hk.1.2⟩⟩⟩⟩)))⟩; have n1_ : Aside0 (Kd.N k34 34 w89 w.heap.size (fun k_ => some k_ ≠ (.slice Ao11 t242.length co11 : Value).ownBlock ∧ some k_ ≠ (.slice Ao88 t264.length co88 : Value).ownBlock ∧ k_ ≠ gb246 ∧ k_ ≠ gb256 ∧ k_ ≠ gb268) (.slice Ao16 t252.length co16) t252) := ⟨(by rw [hw]; exact (by (with_reducible repeat (first | apply Kd.N_alloc | apply Kd.N_drewN | apply Kd.N_drew)); exact Kd.N_mono (Kd.N_far (p := ⟨gb268, 5, none⟩) (Kd.N_far (p := ⟨gb268, 4, none⟩) (Kd.N_far (p := ⟨gb268, 3, none⟩) (Kd.N_far (p := ⟨gb268, 2, none⟩) (Kd.N_far (p := ⟨gb268, 1, none⟩) (Kd.N_far (p := ⟨gb268, 0, none⟩) (Kd.N_mono HO_257005.out (fun k_ hk => (⟨hk, hk.2⟩ : _ ∧ k_ ≠ gb268))) (fun _ hk => hk.2) (.bool t259)) (fun _ hk => hk.2) (.bool t260)) (fun _ hk => hk.2) (.int .i64 t261)) (fun _ hk => hk.2) (.int .i64 t262)) (fun _ hk => hk.2) (.int .i64 t263)) (fun _ hk => hk.2) (.slice Ao88 t264.length co88)) (fun _ hk => ⟨hk.1.1.1.1, ⟨hk.1.1.2, ⟨hk.1.1.1.2.1, ⟨hk.1.1.1.2.2, hk.1.2⟩⟩⟩⟩)))⟩; have n2_ : Aside0 (Kd.N k34 34 w89 w.heap.size (fun k_ => some k_ ≠ (.slice Ao11 t242.length co11 : Value).ownBlock ∧ some k_ ≠ (.slice Ao16 t252.length co16 : Value).ownBlock ∧ k_ ≠ gb246 ∧ k_ ≠ gb256 ∧ k_ ≠ gb268) (.slice Ao88 t264.length co88) t264) := ⟨(by rw [hw]; exact (by (with_reducible repeat (first | apply Kd.N_alloc | apply Kd.N_drewN | apply Kd.N_drew)); exact Kd.N_mono (Kd.N_far (p := ⟨gb268, 5, none⟩) (Kd.N_far (p := ⟨gb268, 4, none⟩) (Kd.N_far (p := ⟨gb268, 3, none⟩) (Kd.N_far (p := ⟨gb268, 2, none⟩) (Kd.N_far (p := ⟨gb268, 1, none⟩) (Kd.N_far (p := ⟨gb268, 0, none⟩) (Kd.N_mono HO266.out (fun k_ hk => (⟨hk, hk.2⟩ : _ ∧ k_ ≠ gb268))) (fun _ hk => hk.2) (.bool t259)) (fun _ hk => hk.2) (.bool t260)) (fun _ hk => hk.2) (.int .i64 t261)) (fun _ hk => hk.2) (.int .i64 t262)) (fun _ hk => hk.2) (.int .i64 t263)) (fun _ hk => hk.2) (.slice Ao88 t264.length co88)) (fun _ hk => ⟨hk.1.1.1, ⟨hk.1.1.2.1, ⟨hk.1.1.2.2.1, ⟨hk.1.1.2.2.2, hk.1.2⟩⟩⟩⟩)))⟩; have n3_ : Aside0 (w89.heap[gb246]? = some (.cells #[.bool t237, .bool t238, .int .i64 t239, .int .i64 t240, .int .i64 t241, .slice Ao11 t242.length co11] 27 (0, 0))) := ⟨(by rw [hw]; exact (by (with_reducible repeat (first | refine zzf ?_ _ | refine zzg ?_ | refine zze ?_ _)); refine zzj ?_ NB246_268.out _; (with_reducible repeat (first | refine zzf ?_ _ | refine zzg ?_ | refine zze ?_ _)); refine zzj ?_ NB246_268.out _; (with_reducible repeat (first | refine zzf ?_ _ | refine zzg ?_ | refine zze ?_ _)); refine zzj ?_ NB246_268.out _; (with_reducible repeat (first | refine zzf ?_ _ | refine zzg ?_ | refine zze ?_ _)); refine zzj ?_ NB246_268.out _; (with_reducible repeat (first | refine zzf ?_ _ | refine zzg ?_ | refine zze ?_ _)); refine zzj ?_ NB246_268.out _; (with_reducible repeat (first | refine zzf ?_ _ | refine zzg ?_ | refine zze ?_ _)); refine zzj ?_ NB246_268.out _; (with_reducible repeat (first | refine zzf ?_ _ | refine zzg ?_ | refine zze ?_ _)); exact BK246.out))⟩; have n4_ : Aside0 (w89.heap[gb256]? = some (.cells #[.bool t247, .bool t248, .int .i64 t249, .int .i64 t250, .int .i64 t251, .slice Ao16 t252.length co16] 27 (0, 0))) := ⟨(by rw [hw]; exact (by (with_reducible repeat (first | refine zzf ?_ _ | refine zzg ?_ | refine zze ?_ _)); refine zzj ?_ NB256_268.out _; (with_reducible repeat (first | refine zzf ?_ _ | refine zzg ?_ | refine zze ?_ _)); refine zzj ?_ NB256_268.out _; (with_reducible repeat (first | refine zzf ?_ _ | refine zzg ?_ | refine zze ?_ _)); refine zzj ?_ NB256_268.out _; (with_reducible repeat (first | refine zzf ?_ _ | refine zzg ?_ | refine zze ?_ _)); refine zzj ?_ NB256_268.out _; (with_reducible repeat (first | refine zzf ?_ _ | refine zzg ?_ | refine zze ?_ _)); refine zzj ?_ NB256_268.out _; (with_reducible repeat (first | refine zzf ?_ _ | refine zzg ?_ | refine zze ?_ _)); refine zzj ?_ NB256_268.out _; (with_reducible repeat (first | refine zzf ?_ _ | refine zzg ?_ | refine zze ?_ _)); exact BK256.out))⟩; have n5_ : Aside0 (w89.heap[gb268]? = some (.cells #[.bool t259, .bool t260, .int .i64 t261, .int .i64 t262, .int .i64 t263, .slice Ao88 t264.length co88] 27 (0, 0))) := ⟨(by rw [hw]; exact (by (with_reducible repeat (first | refine zzf ?_ _ | refine zzg ?_ | refine zze ?_ _)); refine zzi (cs := #[.bool t259, .bool t260, .int .i64 t261, .int .i64 t262, .int .i64 t263, .slice none 0 0]) ?_ 5 _ rfl; (with_reducible repeat (first | refine zzf ?_ _ | refine zzg ?_ | refine zze ?_ _)); refine zzi (cs := #[.bool t259, .bool t260, .int .i64 t261, .int .i64 t262, .int .i64 0, .slice none 0 0]) ?_ 4 _ rfl; (with_reducible repeat (first | refine zzf ?_ _ | refine zzg ?_ | refine zze ?_ _)); refine zzi (cs := #[.bool t259, .bool t260, .int .i64 t261, .int .i64 0, .int .i64 0, .slice none 0 0]) ?_ 3 _ rfl; (with_reducible repeat (first | refine zzf ?_ _ | refine zzg ?_ | refine zze ?_ _)); refine zzi (cs := #[.bool t259, .bool t260, .int .i64 0, .int .i64 0, .int .i64 0, .slice none 0 0]) ?_ 2 _ rfl; (with_reducible repeat (first | refine zzf ?_ _ | refine zzg ?_ | refine zze ?_ _)); refine zzi (cs := #[.bool t259, .bool false, .int .i64 0, .int .i64 0, .int .i64 0, .slice none 0 0]) ?_ 1 _ rfl; (with_reducible repeat (first | refine zzf ?_ _ | refine zzg ?_ | refine zze ?_ _)); refine zzi (cs := #[.bool false, .bool false, .int .i64 0, .int .i64 0, .int .i64 0, .slice none 0 0]) ?_ 0 _ rfl; (with_reducible repeat (first | refine zzf ?_ _ | refine zzg ?_ | refine zze ?_ _)); exact BK268.out))⟩; have n6_ : Aside0 (Below w.heap.size w w89) := ⟨(by rw [hw]; exact (by repeat (first | (with_reducible first | exact HB.out | apply zza | apply zzb | apply zzc | refine zzd ?_ GE246.out | refine zzd ?_ GE256.out | refine zzd ?_ GE268.out) | exact HB.out)))⟩; clear hw HO_247005 HO_257005 HO266 BK246 BK256 BK268 HB; have HO_247005 := n0_; have HO_257005 := n1_; have HO266 := n2_; have BK246 := n3_; have BK256 := n4_; have BK268 := n5_; have HB := n6_; clear n0_ n1_ n2_ n3_ n4_ n5_ n6_; obtain ⟨hcz90_0, hcz90_1, hcz90_2, hcz90_3, hcz90_4, hcz90_5, hfz90_0, hfz90_1, hfz90_2, hfz90_3, hfz90_4, hfz90_5⟩ := zzc6 BK268.out; have p269 : 0 ≤ (0 : Int) := (by omega); have q269 : 0 < (t264.length : Int) := of_decide_eq_true (by first | (with_reducible assumption) | assumption); obtain ⟨ad269, A269_3, c269_3, A269_5, c269_5, e269, hx269_0, hx269_1, hx269_2, hx269_3, hx269_4, hx269_5, hl269_3, hi269_3, hl269_5, hi269_5⟩ := at_T34 (Kd.N_reads' HO266.out).2.2 0 p269 q269; cases e269; obtain ⟨ce269, hce269, hMe269, hcc269⟩ := Kd.N_get HO266.out z34 0 p269 (by first | exact q269 | exact of_decide_eq_true (by first | (with_reducible assumption) | assumption) | (have e_ := (Kd.N_reads' HO266.out).1; omega)); obtain ⟨ua269_3, uc269_3, ua269_5, uc269_5, rfl, ul269_3, ge269_3, ul269_5, ge269_5⟩ := k34_openF hMe269; have hv269_3 := hcc269 3 _ rfl; rw [add_field _ _ 3 (by omega)] at hv269_3; replace hv269_3 := Option.some.inj (hv269_3.symm.trans hx269_3); injection hv269_3 with hva_ hvn_ hvc_; rw [hva_] at ge269_3; rw [hvc_] at ul269_3; have HL269_3 := zzm (show Kd.V (Kd.int .i64) 3 _ w.heap.size _ _ ((rd_T34 t264 0).f3) from Kd.V_mk ul269_3 ge269_3); clear hva_ hvn_ hvc_ ge269_3 ul269_3; have hv269_5 := hcc269 5 _ rfl; rw [add_field _ _ 5 (by omega)] at hv269_5; replace hv269_5 := Option.some.inj (hv269_5.symm.trans hx269_5); injection hv269_5 with hva_ hvn_ hvc_; rw [hva_] at ge269_5; rw [hvc_] at ul269_5; have HL269_5 := zzm (show Kd.V (Kd.int .i64) 3 _ w.heap.size _ _ ((rd_T34 t264 0).f5) from Kd.V_mk ul269_5 ge269_5); clear hva_ hvn_ hvc_ ge269_5 ul269_5 hcc269 hce269; have qi269 : (0 < t264.length) = True := eq_true (by omega); (try rw [show ((0 : Int)).toNat = 0 from rfl] at hx269_0); (try rw [show 0 * 6 = 0 from rfl] at hx269_0); (try rw [Addr.add_zero'] at hx269_0); (try rw [show ((0 : Int)).toNat = 0 from rfl] at hx269_1); (try rw [show 0 * 6 = 0 from rfl] at hx269_1); (try rw [Addr.add_zero'] at hx269_1); (try rw [show ((0 : Int)).toNat = 0 from rfl] at hx269_2); (try rw [show 0 * 6 = 0 from rfl] at hx269_2); (try rw [Addr.add_zero'] at hx269_2); (try rw [show ((0 : Int)).toNat = 0 from rfl] at hx269_3); (try rw [show 0 * 6 = 0 from rfl] at hx269_3); (try rw [Addr.add_zero'] at hx269_3); (try rw [show ((0 : Int)).toNat = 0 from rfl] at hx269_4); (try rw [show 0 * 6 = 0 from rfl] at hx269_4); (try rw [Addr.add_zero'] at hx269_4); (try rw [show ((0 : Int)).toNat = 0 from rfl] at hx269_5); (try rw [show 0 * 6 = 0 from rfl] at hx269_5); (try rw [Addr.add_zero'] at hx269_5); have HR269_3 := zzm hi269_3; have HC269_3 := zzm hl269_3; clear hi269_3 hl269_3; have HR269_5 := zzm hi269_5; have HC269_5 := zzm hl269_5; clear hi269_5 hl269_5; replace p269 := eq_true p269; replace q269 := eq_true q269) | ((with_reducible refine gate_dst (N := 14) rfl ?_); refine box_event ?hg (N := 14) ?hd (cs := #[.int .i64 0, .int .i64 0, .bool false, .slice none 0 0, .bool false, .slice none 0 0]) (t := 34) ?hr ?_; (case hd => rfl); (case hg => rfl); (case hr => first | (go_simp; done) | (go_simp; rfl)); intro gb270 hg w91 hbox hb; have n0_ := zzm (Kd.N_below (Kd.N_elderB (by (with_reducible repeat (first | apply Kd.N_alloc | apply Kd.N_drewN | apply Kd.N_drew)); exact HO_247005.out) gb270 (Nat.le_of_eq hg.symm)) hb); have n1_ := zzm (Kd.N_below (Kd.N_elderB (by (with_reducible repeat (first | apply Kd.N_alloc | apply Kd.N_drewN | apply Kd.N_drew)); exact HO_257005.out) gb270 (Nat.le_of_eq hg.symm)) hb); have n2_ := zzm (Kd.N_below (Kd.N_elderB (by (with_reducible repeat (first | apply Kd.N_alloc | apply Kd.N_drewN | apply Kd.N_drew)); exact HO266.out) gb270 (Nat.le_of_eq hg.symm)) hb); have n3_ := zzm (Kd.V_below (Kd.V_elderB (by (with_reducible repeat (first | apply Kd.V_alloc | apply Kd.V_drewN | apply Kd.V_drew)); exact HL269_3.out) gb270 (Nat.le_of_eq hg.symm)) hb); have n4_ := zzm (Kd.V_below (Kd.V_elderB (by (with_reducible repeat (first | apply Kd.V_alloc | apply Kd.V_drewN | apply Kd.V_drew)); exact HL269_5.out) gb270 (Nat.le_of_eq hg.symm)) hb); have n5_ := zzm (zzh (g := gb246) (o := .cells #[.bool t237, .bool t238, .int .i64 t239, .int .i64 t240, .int .i64 t241, .slice Ao11 t242.length co11] 27 (0, 0)) (by (with_reducible repeat (first | refine zzf ?_ _ | refine zzg ?_ | refine zze ?_ _)); exact BK246.out) hb); have n6_ := zzm (zzh (g := gb256) (o := .cells #[.bool t247, .bool t248, .int .i64 t249, .int .i64 t250, .int .i64 t251, .slice Ao16 t252.length co16] 27 (0, 0)) (by (with_reducible repeat (first | refine zzf ?_ _ | refine zzg ?_ | refine zze ?_ _)); exact BK256.out) hb); have n7_ := zzm (zzh (g := gb268) (o := .cells #[.bool t259, .bool t260, .int .i64 t261, .int .i64 t262, .int .i64 t263, .slice (some ad269) t264.length co88] 27 (0, 0)) (by (with_reducible repeat (first | refine zzf ?_ _ | refine zzg ?_ | refine zze ?_ _)); exact BK268.out) hb); have n8_ := zzm (Kd.C_below (by repeat (first | (with_reducible exact HR269_3.out) | (with_reducible refine Kd.C_alloc ?_ _) | (with_reducible refine Kd.C_drewN ?_ _) | (with_reducible refine Kd.C_drew ?_) | exact HR269_3.out)) hb); have n9_ := zzm (Kd.C_below (by repeat (first | (with_reducible exact HR269_5.out) | (with_reducible refine Kd.C_alloc ?_ _) | (with_reducible refine Kd.C_drewN ?_ _) | (with_reducible refine Kd.C_drew ?_) | exact HR269_5.out)) hb); have n10_ := zzm (zzp (by repeat (first | (with_reducible first | exact HB.out | apply zza | apply zzb | apply zzc | refine zzd ?_ GE246.out | refine zzd ?_ GE256.out | refine zzd ?_ GE268.out) | exact HB.out)) hb); have n11_ := zzm (hbox); have n12_ := zzm ((by rw [hg]; exact (zzo (by repeat (first | (with_reducible first | exact HB.out | apply zza | apply zzb | apply zzc | refine zzd ?_ GE246.out | refine zzd ?_ GE256.out | refine zzd ?_ GE268.out) | exact HB.out))) : w.heap.size ≤ gb270)); have n13_ := zzm ((by rw [hg]; exact (zzo (by repeat (first | (with_reducible first | exact HB.out | apply zza | apply zzb | apply zzc | refine zzd ?_ GE246.out | refine zzd ?_ GE256.out | refine zzd ?_ GE268.out) | exact HB.out))) : w.heap.size ≤ gb270)); have n14_ := zzm ((by rw [hg]; exact Nat.ne_of_lt (blk_lt (g := gb246) (o := .cells #[.bool t237, .bool t238, .int .i64 t239, .int .i64 t240, .int .i64 t241, .slice Ao11 t242.length co11] 27 (0, 0)) (by (with_reducible repeat (first | refine zzf ?_ _ | refine zzg ?_ | refine zze ?_ _)); exact BK246.out)) : gb246 ≠ gb270)); have n15_ := zzm ((by rw [hg]; exact Nat.ne_of_gt (blk_lt (g := gb246) (o := .cells #[.bool t237, .bool t238, .int .i64 t239, .int .i64 t240, .int .i64 t241, .slice Ao11 t242.length co11] 27 (0, 0)) (by (with_reducible repeat (first | refine zzf ?_ _ | refine zzg ?_ | refine zze ?_ _)); exact BK246.out)) : gb270 ≠ gb246)); have n16_ := zzm ((by rw [hg]; exact Nat.ne_of_lt (blk_lt (g := gb256) (o := .cells #[.bool t247, .bool t248, .int .i64 t249, .int .i64 t250, .int .i64 t251, .slice Ao16 t252.length co16] 27 (0, 0)) (by (with_reducible repeat (first | refine zzf ?_ _ | refine zzg ?_ | refine zze ?_ _)); exact BK256.out)) : gb256 ≠ gb270)); have n17_ := zzm ((by rw [hg]; exact Nat.ne_of_gt (blk_lt (g := gb256) (o := .cells #[.bool t247, .bool t248, .int .i64 t249, .int .i64 t250, .int .i64 t251, .slice Ao16 t252.length co16] 27 (0, 0)) (by (with_reducible repeat (first | refine zzf ?_ _ | refine zzg ?_ | refine zze ?_ _)); exact BK256.out)) : gb270 ≠ gb256)); have n18_ := zzm ((by rw [hg]; exact Nat.ne_of_lt (blk_lt (g := gb268) (o := .cells #[.bool t259, .bool t260, .int .i64 t261, .int .i64 t262, .int .i64 t263, .slice (some ad269) t264.length co88] 27 (0, 0)) (by (with_reducible repeat (first | refine zzf ?_ _ | refine zzg ?_ | refine zze ?_ _)); exact BK268.out)) : gb268 ≠ gb270)); have n19_ := zzm ((by rw [hg]; exact Nat.ne_of_gt (blk_lt (g := gb268) (o := .cells #[.bool t259, .bool t260, .int .i64 t261, .int .i64 t262, .int .i64 t263, .slice (some ad269) t264.length co88] 27 (0, 0)) (by (with_reducible repeat (first | refine zzf ?_ _ | refine zzg ?_ | refine zze ?_ _)); exact BK268.out)) : gb270 ≠ gb268)); clear HO_247005 HO_257005 HO266 HL269_3 HL269_5 BK246 BK256 BK268 HR269_3 HR269_5 HB; have HO_247005 := n0_; have HO_257005 := n1_; have HO266 := n2_; have HL269_3 := n3_; have HL269_5 := n4_; have BK246 := n5_; have BK256 := n6_; have BK268 := n7_; have HR269_3 := n8_; have HR269_5 := n9_; have HB := n10_; have BK270 := n11_; have GW270 := n12_; have GE270 := n13_; have NB246_270 := n14_; have NB270_246 := n15_; have NB256_270 := n16_; have NB270_256 := n17_; have NB268_270 := n18_; have NB270_268 := n19_; clear n0_ n1_ n2_ n3_ n4_ n5_ n6_ n7_ n8_ n9_ n10_ n11_ n12_ n13_ n14_ n15_ n16_ n17_ n18_ n19_ hb hbox hg; have hnb92 := NB270_246.out; have hnc92 := NB246_270.out; have hnb93 := NB270_256.out; have hnc93 := NB256_270.out; have hnb94 := NB270_268.out; have hnc94 := NB268_270.out; obtain ⟨hcz95_0, hcz95_1, hcz95_2, hcz95_3, hcz95_4, hcz95_5, hfz95_0, hfz95_1, hfz95_2, hfz95_3, hfz95_4, hfz95_5⟩ := zzc6 BK270.out) | ((with_reducible refine gate_store (t := 34) (p := 14) rfl ?_); refine store_event (t := 34) (p := 14) (v := ?vo_w96) (w1 := ((((((w91.setCell ⟨gb270, 0, none⟩ (.int .i64 ((rd_T34 t264 0).f0))).setCell ⟨gb270, 1, none⟩ (.int .i64 ((rd_T34 t264 0).f1))).setCell ⟨gb270, 2, none⟩ (.bool ((rd_T34 t264 0).f2))).setCell ⟨gb270, 3, none⟩ (.slice A269_3 ((rd_T34 t264 0).f3).length c269_3)).setCell ⟨gb270, 4, none⟩ (.bool ((rd_T34 t264 0).f4))).setCell ⟨gb270, 5, none⟩ (.slice A269_5 ((rd_T34 t264 0).f5).length c269_5))) ?hg ?ho ?hn ?hr ?_; (case ho => rfl); (case hg => rfl); (case hn => rfl); (case hr => first | (go_simp; done) | (go_simp; rfl)); intro w96 hw; have n0_ : Aside0 (Kd.N k34 34 w96 w.heap.size (fun k_ => some k_ ≠ (.slice Ao16 t252.length co16 : Value).ownBlock ∧ some k_ ≠ (.slice (some ad269) t264.length co88 : Value).ownBlock ∧ k_ ≠ gb246 ∧ k_ ≠ gb256 ∧ k_ ≠ gb268 ∧ k_ ≠ gb270) (.slice Ao11 t242.length co11) t242) := ⟨(by rw [hw]; exact (by (with_reducible repeat (first | apply Kd.N_alloc | apply Kd.N_drewN | apply Kd.N_drew)); exact Kd.N_mono (Kd.N_far (p := ⟨gb270, 5, none⟩) (Kd.N_far (p := ⟨gb270, 4, none⟩) (Kd.N_far (p := ⟨gb270, 3, none⟩) (Kd.N_far (p := ⟨gb270, 2, none⟩) (Kd.N_far (p := ⟨gb270, 1, none⟩) (Kd.N_far (p := ⟨gb270, 0, none⟩) (Kd.N_mono HO_247005.out (fun k_ hk => (⟨hk, hk.2⟩ : _ ∧ k_ ≠ gb270))) (fun _ hk => hk.2) (.int .i64 ((rd_T34 t264 0).f0))) (fun _ hk => hk.2) (.int .i64 ((rd_T34 t264 0).f1))) (fun _ hk => hk.2) (.bool ((rd_T34 t264 0).f2))) (fun _ hk => hk.2) (.slice A269_3 ((rd_T34 t264 0).f3).length c269_3)) (fun _ hk => hk.2) (.bool ((rd_T34 t264 0).f4))) (fun _ hk => hk.2) (.slice A269_5 ((rd_T34 t264 0).f5).length c269_5)) (fun _ hk => ⟨hk.1.1.1, ⟨hk.1.1.2.1, ⟨hk.1.1.2.2.1, ⟨hk.1.1.2.2.2.1, ⟨hk.1.1.2.2.2.2, hk.1.2⟩⟩⟩⟩⟩)))⟩; have n1_ : Aside0 (Kd.N k34 34 w96 w.heap.size (fun k_ => some k_ ≠ (.slice Ao11 t242.length co11 : Value).ownBlock ∧ some k_ ≠ (.slice (some ad269) t264.length co88 : Value).ownBlock ∧ k_ ≠ gb246 ∧ k_ ≠ gb256 ∧ k_ ≠ gb268 ∧ k_ ≠ gb270) (.slice Ao16 t252.length co16) t252) := ⟨(by rw [hw]; exact (by (with_reducible repeat (first | apply Kd.N_alloc | apply Kd.N_drewN | apply Kd.N_drew)); exact Kd.N_mono (Kd.N_far (p := ⟨gb270, 5, none⟩) (Kd.N_far (p := ⟨gb270, 4, none⟩) (Kd.N_far (p := ⟨gb270, 3, none⟩) (Kd.N_far (p := ⟨gb270, 2, none⟩) (Kd.N_far (p := ⟨gb270, 1, none⟩) (Kd.N_far (p := ⟨gb270, 0, none⟩) (Kd.N_mono HO_257005.out (fun k_ hk => (⟨hk, hk.2⟩ : _ ∧ k_ ≠ gb270))) (fun _ hk => hk.2) (.int .i64 ((rd_T34 t264 0).f0))) (fun _ hk => hk.2) (.int .i64 ((rd_T34 t264 0).f1))) (fun _ hk => hk.2) (.bool ((rd_T34 t264 0).f2))) (fun _ hk => hk.2) (.slice A269_3 ((rd_T34 t264 0).f3).length c269_3)) (fun _ hk => hk.2) (.bool ((rd_T34 t264 0).f4))) (fun _ hk => hk.2) (.slice A269_5 ((rd_T34 t264 0).f5).length c269_5)) (fun _ hk => ⟨hk.1.1.1, ⟨hk.1.1.2.1, ⟨hk.1.1.2.2.1, ⟨hk.1.1.2.2.2.1, ⟨hk.1.1.2.2.2.2, hk.1.2⟩⟩⟩⟩⟩)))⟩; have n2_ : Aside0 (Kd.N k34 34 w96 w.heap.size (fun k_ => some k_ ≠ (.slice Ao11 t242.length co11 : Value).ownBlock ∧ some k_ ≠ (.slice Ao16 t252.length co16 : Value).ownBlock ∧ k_ ≠ gb246 ∧ k_ ≠ gb256 ∧ k_ ≠ gb268 ∧ k_ ≠ gb270) (.slice (some ad269) t264.length co88) t264) := ⟨(by rw [hw]; exact (by (with_reducible repeat (first | apply Kd.N_alloc | apply Kd.N_drewN | apply Kd.N_drew)); exact Kd.N_mono (Kd.N_far (p := ⟨gb270, 5, none⟩) (Kd.N_far (p := ⟨gb270, 4, none⟩) (Kd.N_far (p := ⟨gb270, 3, none⟩) (Kd.N_far (p := ⟨gb270, 2, none⟩) (Kd.N_far (p := ⟨gb270, 1, none⟩) (Kd.N_far (p := ⟨gb270, 0, none⟩) (Kd.N_mono HO266.out (fun k_ hk => (⟨hk, hk.2⟩ : _ ∧ k_ ≠ gb270))) (fun _ hk => hk.2) (.int .i64 ((rd_T34 t264 0).f0))) (fun _ hk => hk.2) (.int .i64 ((rd_T34 t264 0).f1))) (fun _ hk => hk.2) (.bool ((rd_T34 t264 0).f2))) (fun _ hk => hk.2) (.slice A269_3 ((rd_T34 t264 0).f3).length c269_3)) (fun _ hk => hk.2) (.bool ((rd_T34 t264 0).f4))) (fun _ hk => hk.2) (.slice A269_5 ((rd_T34 t264 0).f5).length c269_5)) (fun _ hk => ⟨hk.1.1.1, ⟨hk.1.1.2.1, ⟨hk.1.1.2.2.1, ⟨hk.1.1.2.2.2.1, ⟨hk.1.1.2.2.2.2, hk.1.2⟩⟩⟩⟩⟩)))⟩; have n3_ : Aside0 (Kd.V (Kd.int .i64) 3 w96 w.heap.size (fun k_ => some k_ ≠ (.slice Ao11 t242.length co11 : Value).ownBlock ∧ some k_ ≠ (.slice Ao16 t252.length co16 : Value).ownBlock ∧ some k_ ≠ (.slice (some ad269) t264.length co88 : Value).ownBlock ∧ k_ ≠ gb246 ∧ k_ ≠ gb256 ∧ k_ ≠ gb268 ∧ k_ ≠ gb270) (.slice A269_3 ((rd_T34 t264 0).f3).length c269_3) ((rd_T34 t264 0).f3)) := ⟨(by rw [hw]; exact (by (with_reducible repeat (first | apply Kd.V_alloc | apply Kd.V_drewN | apply Kd.V_drew)); exact Kd.V_mono (Kd.V_far (p := ⟨gb270, 5, none⟩) (Kd.V_far (p := ⟨gb270, 4, none⟩) (Kd.V_far (p := ⟨gb270, 3, none⟩) (Kd.V_far (p := ⟨gb270, 2, none⟩) (Kd.V_far (p := ⟨gb270, 1, none⟩) (Kd.V_far (p := ⟨gb270, 0, none⟩) (Kd.V_mono HL269_3.out (fun k_ hk => (⟨hk, hk.2⟩ : _ ∧ k_ ≠ gb270))) (fun _ hk => hk.2) (.int .i64 ((rd_T34 t264 0).f0))) (fun _ hk => hk.2) (.int .i64 ((rd_T34 t264 0).f1))) (fun _ hk => hk.2) (.bool ((rd_T34 t264 0).f2))) (fun _ hk => hk.2) (.slice A269_3 ((rd_T34 t264 0).f3).length c269_3)) (fun _ hk => hk.2) (.bool ((rd_T34 t264 0).f4))) (fun _ hk => hk.2) (.slice A269_5 ((rd_T34 t264 0).f5).length c269_5)) (fun _ hk => ⟨hk.1.1.1.1, ⟨hk.1.1.1.2.1, ⟨hk.1.1.2, ⟨hk.1.1.1.2.2.1, ⟨hk.1.1.1.2.2.2.1, ⟨hk.1.1.1.2.2.2.2, hk.1.2⟩⟩⟩⟩⟩⟩)))⟩; have n4_ : Aside0 (Kd.V (Kd.int .i64) 3 w96 w.heap.size (fun k_ => some k_ ≠ (.slice Ao11 t242.length co11 : Value).ownBlock ∧ some k_ ≠ (.slice Ao16 t252.length co16 : Value).ownBlock ∧ some k_ ≠ (.slice (some ad269) t264.length co88 : Value).ownBlock ∧ k_ ≠ gb246 ∧ k_ ≠ gb256 ∧ k_ ≠ gb268 ∧ k_ ≠ gb270) (.slice A269_5 ((rd_T34 t264 0).f5).length c269_5) ((rd_T34 t264 0).f5)) := ⟨(by rw [hw]; exact (by (with_reducible repeat (first | apply Kd.V_alloc | apply Kd.V_drewN | apply Kd.V_drew)); exact Kd.V_mono (Kd.V_far (p := ⟨gb270, 5, none⟩) (Kd.V_far (p := ⟨gb270, 4, none⟩) (Kd.V_far (p := ⟨gb270, 3, none⟩) (Kd.V_far (p := ⟨gb270, 2, none⟩) (Kd.V_far (p := ⟨gb270, 1, none⟩) (Kd.V_far (p := ⟨gb270, 0, none⟩) (Kd.V_mono HL269_5.out (fun k_ hk => (⟨hk, hk.2⟩ : _ ∧ k_ ≠ gb270))) (fun _ hk => hk.2) (.int .i64 ((rd_T34 t264 0).f0))) (fun _ hk => hk.2) (.int .i64 ((rd_T34 t264 0).f1))) (fun _ hk => hk.2) (.bool ((rd_T34 t264 0).f2))) (fun _ hk => hk.2) (.slice A269_3 ((rd_T34 t264 0).f3).length c269_3)) (fun _ hk => hk.2) (.bool ((rd_T34 t264 0).f4))) (fun _ hk => hk.2) (.slice A269_5 ((rd_T34 t264 0).f5).length c269_5)) (fun _ hk => ⟨hk.1.1.1.1, ⟨hk.1.1.1.2.1, ⟨hk.1.1.2, ⟨hk.1.1.1.2.2.1, ⟨hk.1.1.1.2.2.2.1, ⟨hk.1.1.1.2.2.2.2, hk.1.2⟩⟩⟩⟩⟩⟩)))⟩; have n5_ : Aside0 (w96.heap[gb246]? = some (.cells #[.bool t237, .bool t238, .int .i64 t239, .int .i64 t240, .int .i64 t241, .slice Ao11 t242.length co11] 27 (0, 0))) := ⟨(by rw [hw]; exact (by (with_reducible repeat (first | refine zzf ?_ _ | refine zzg ?_ | refine zze ?_ _)); refine zzj ?_ NB246_270.out _; (with_reducible repeat (first | refine zzf ?_ _ | refine zzg ?_ | refine zze ?_ _)); refine zzj ?_ NB246_270.out _; (with_reducible repeat (first | refine zzf ?_ _ | refine zzg ?_ | refine zze ?_ _)); refine zzj ?_ NB246_270.out _; (with_reducible repeat (first | refine zzf ?_ _ | refine zzg ?_ | refine zze ?_ _)); refine zzj ?_ NB246_270.out _; (with_reducible repeat (first | refine zzf ?_ _ | refine zzg ?_ | refine zze ?_ _)); refine zzj ?_ NB246_270.out _; (with_reducible repeat (first | refine zzf ?_ _ | refine zzg ?_ | refine zze ?_ _)); refine zzj ?_ NB246_270.out _; (with_reducible repeat (first | refine zzf ?_ _ | refine zzg ?_ | refine zze ?_ _)); exact BK246.out))⟩; have n6_ : Aside0 (w96.heap[gb256]? = some (.cells #[.bool t247, .bool t248, .int .i64 t249, .int .i64 t250, .int .i64 t251, .slice Ao16 t252.length co16] 27 (0, 0))) := ⟨(by rw [hw]; exact (by (with_reducible repeat (first | refine zzf ?_ _ | refine zzg ?_ | refine zze ?_ _)); refine zzj ?_ NB256_270.out _; (with_reducible repeat (first | refine zzf ?_ _ | refine zzg ?_ | refine zze ?_ _)); refine zzj ?_ NB256_270.out _; (with_reducible repeat (first | refine zzf ?_ _ | refine zzg ?_ | refine zze ?_ _)); refine zzj ?_ NB256_270.out _; (with_reducible repeat (first | refine zzf ?_ _ | refine zzg ?_ | refine zze ?_ _)); refine zzj ?_ NB256_270.out _; (with_reducible repeat (first | refine zzf ?_ _ | refine zzg ?_ | refine zze ?_ _)); refine zzj ?_ NB256_270.out _; (with_reducible repeat (first | refine zzf ?_ _ | refine zzg ?_ | refine zze ?_ _)); refine zzj ?_ NB256_270.out _; (with_reducible repeat (first | refine zzf ?_ _ | refine zzg ?_ | refine zze ?_ _)); exact BK256.out))⟩; have n7_ : Aside0 (w96.heap[gb268]? = some (.cells #[.bool t259, .bool t260, .int .i64 t261, .int .i64 t262, .int .i64 t263, .slice (some ad269) t264.length co88] 27 (0, 0))) := ⟨(by rw [hw]; exact (by (with_reducible repeat (first | refine zzf ?_ _ | refine zzg ?_ | refine zze ?_ _)); refine zzj ?_ NB268_270.out _; (with_reducible repeat (first | refine zzf ?_ _ | refine zzg ?_ | refine zze ?_ _)); refine zzj ?_ NB268_270.out _; (with_reducible repeat (first | refine zzf ?_ _ | refine zzg ?_ | refine zze ?_ _)); refine zzj ?_ NB268_270.out _; (with_reducible repeat (first | refine zzf ?_ _ | refine zzg ?_ | refine zze ?_ _)); refine zzj ?_ NB268_270.out _; (with_reducible repeat (first | refine zzf ?_ _ | refine zzg ?_ | refine zze ?_ _)); refine zzj ?_ NB268_270.out _; (with_reducible repeat (first | refine zzf ?_ _ | refine zzg ?_ | refine zze ?_ _)); refine zzj ?_ NB268_270.out _; (with_reducible repeat (first | refine zzf ?_ _ | refine zzg ?_ | refine zze ?_ _)); exact BK268.out))⟩; have n8_ : Aside0 (w96.heap[gb270]? = some (.cells #[.int .i64 ((rd_T34 t264 0).f0), .int .i64 ((rd_T34 t264 0).f1), .bool ((rd_T34 t264 0).f2), .slice A269_3 ((rd_T34 t264 0).f3).length c269_3, .bool ((rd_T34 t264 0).f4), .slice A269_5 ((rd_T34 t264 0).f5).length c269_5] 34 (0, 0))) := ⟨(by rw [hw]; exact (by (with_reducible repeat (first | refine zzf ?_ _ | refine zzg ?_ | refine zze ?_ _)); refine zzi (cs := #[.int .i64 ((rd_T34 t264 0).f0), .int .i64 ((rd_T34 t264 0).f1), .bool ((rd_T34 t264 0).f2), .slice A269_3 ((rd_T34 t264 0).f3).length c269_3, .bool ((rd_T34 t264 0).f4), .slice none 0 0]) ?_ 5 _ rfl; (with_reducible repeat (first | refine zzf ?_ _ | refine zzg ?_ | refine zze ?_ _)); refine zzi (cs := #[.int .i64 ((rd_T34 t264 0).f0), .int .i64 ((rd_T34 t264 0).f1), .bool ((rd_T34 t264 0).f2), .slice A269_3 ((rd_T34 t264 0).f3).length c269_3, .bool false, .slice none 0 0]) ?_ 4 _ rfl; (with_reducible repeat (first | refine zzf ?_ _ | refine zzg ?_ | refine zze ?_ _)); refine zzi (cs := #[.int .i64 ((rd_T34 t264 0).f0), .int .i64 ((rd_T34 t264 0).f1), .bool ((rd_T34 t264 0).f2), .slice none 0 0, .bool false, .slice none 0 0]) ?_ 3 _ rfl; (with_reducible repeat (first | refine zzf ?_ _ | refine zzg ?_ | refine zze ?_ _)); refine zzi (cs := #[.int .i64 ((rd_T34 t264 0).f0), .int .i64 ((rd_T34 t264 0).f1), .bool false, .slice none 0 0, .bool false, .slice none 0 0]) ?_ 2 _ rfl; (with_reducible repeat (first | refine zzf ?_ _ | refine zzg ?_ | refine zze ?_ _)); refine zzi (cs := #[.int .i64 ((rd_T34 t264 0).f0), .int .i64 0, .bool false, .slice none 0 0, .bool false, .slice none 0 0]) ?_ 1 _ rfl; (with_reducible repeat (first | refine zzf ?_ _ | refine zzg ?_ | refine zze ?_ _)); refine zzi (cs := #[.int .i64 0, .int .i64 0, .bool false, .slice none 0 0, .bool false, .slice none 0 0]) ?_ 0 _ rfl; (with_reducible repeat (first | refine zzf ?_ _ | refine zzg ?_ | refine zze ?_ _)); exact BK270.out))⟩; have n9_ : Aside0 (Below w.heap.size w w96) := ⟨(by rw [hw]; exact (by repeat (first | (with_reducible first | exact HB.out | apply zza | apply zzb | apply zzc | refine zzd ?_ GE246.out | refine zzd ?_ GE256.out | refine zzd ?_ GE268.out | refine zzd ?_ GE270.out) | exact HB.out)))⟩; clear hw HO_247005 HO_257005 HO266 HL269_3 HL269_5 BK246 BK256 BK268 BK270 HB; have HO_247005 := n0_; have HO_257005 := n1_; have HO266 := n2_; have HL269_3 := n3_; have HL269_5 := n4_; have BK246 := n5_; have BK256 := n6_; have BK268 := n7_; have BK270 := n8_; have HB := n9_; clear n0_ n1_ n2_ n3_ n4_ n5_ n6_ n7_ n8_ n9_; have hnb97 := NB246_256.out; have hnc97 := NB256_246.out; obtain ⟨hcz98_0, hcz98_1, hcz98_2, hcz98_3, hcz98_4, hcz98_5, hfz98_0, hfz98_1, hfz98_2, hfz98_3, hfz98_4, hfz98_5⟩ := zzc6 BK246.out; have p271 : 0 ≤ (0 : Int) := (by omega); have q271 : 0 < (t242.length : Int) := of_decide_eq_true (by first | (with_reducible assumption) | assumption); obtain ⟨ad271, A271_3, c271_3, A271_5, c271_5, e271, hx271_0, hx271_1, hx271_2, hx271_3, hx271_4, hx271_5, hl271_3, hi271_3, hl271_5, hi271_5⟩ := at_T34 (Kd.N_reads' HO_247005.out).2.2 0 p271 q271; cases e271; obtain ⟨ce271, hce271, hMe271, hcc271⟩ := Kd.N_get HO_247005.out z34 0 p271 (by first | exact q271 | exact of_decide_eq_true (by first | (with_reducible assumption) | assumption) | (have e_ := (Kd.N_reads' HO_247005.out).1; omega)); obtain ⟨ua271_3, uc271_3, ua271_5, uc271_5, rfl, ul271_3, ge271_3, ul271_5, ge271_5⟩ := k34_openF hMe271; have hv271_3 := hcc271 3 _ rfl; rw [add_field _ _ 3 (by omega)] at hv271_3; replace hv271_3 := Option.some.inj (hv271_3.symm.trans hx271_3); injection hv271_3 with hva_ hvn_ hvc_; rw [hva_] at ge271_3; rw [hvc_] at ul271_3; have HL271_3 := zzm (show Kd.V (Kd.int .i64) 3 _ w.heap.size _ _ ((rd_T34 t242 0).f3) from Kd.V_mk ul271_3 ge271_3); clear hva_ hvn_ hvc_ ge271_3 ul271_3; have hv271_5 := hcc271 5 _ rfl; rw [add_field _ _ 5 (by omega)] at hv271_5; replace hv271_5 := Option.some.inj (hv271_5.symm.trans hx271_5); injection hv271_5 with hva_ hvn_ hvc_; rw [hva_] at ge271_5; rw [hvc_] at ul271_5; have HL271_5 := zzm (show Kd.V (Kd.int .i64) 3 _ w.heap.size _ _ ((rd_T34 t242 0).f5) from Kd.V_mk ul271_5 ge271_5); clear hva_ hvn_ hvc_ ge271_5 ul271_5 hcc271 hce271; have qi271 : (0 < t242.length) = True := eq_true (by omega); (try rw [show ((0 : Int)).toNat = 0 from rfl] at hx271_0); (try rw [show 0 * 6 = 0 from rfl] at hx271_0); (try rw [Addr.add_zero'] at hx271_0); (try rw [show ((0 : Int)).toNat = 0 from rfl] at hx271_1); (try rw [show 0 * 6 = 0 from rfl] at hx271_1); (try rw [Addr.add_zero'] at hx271_1); (try rw [show ((0 : Int)).toNat = 0 from rfl] at hx271_2); (try rw [show 0 * 6 = 0 from rfl] at hx271_2); (try rw [Addr.add_zero'] at hx271_2); (try rw [show ((0 : Int)).toNat = 0 from rfl] at hx271_3); (try rw [show 0 * 6 = 0 from rfl] at hx271_3); (try rw [Addr.add_zero'] at hx271_3); (try rw [show ((0 : Int)).toNat = 0 from rfl] at hx271_4); (try rw [show 0 * 6 = 0 from rfl] at hx271_4); (try rw [Addr.add_zero'] at hx271_4); (try rw [show ((0 : Int)).toNat = 0 from rfl] at hx271_5); (try rw [show 0 * 6 = 0 from rfl] at hx271_5); (try rw [Addr.add_zero'] at hx271_5); have HR271_3 := zzm hi271_3; have HC271_3 := zzm hl271_3; clear hi271_3 hl271_3; have HR271_5 := zzm hi271_5; have HC271_5 := zzm hl271_5; clear hi271_5 hl271_5; replace p271 := eq_true p271; replace q271 := eq_true q271; obtain ⟨hcz99_0, hcz99_1, hcz99_2, hcz99_3, hcz99_4, hcz99_5, hfz99_0, hfz99_1, hfz99_2, hfz99_3, hfz99_4, hfz99_5⟩ := zzc6 BK270.out))
        have n0_ : Aside0 (Kd.N k34 34 (w96.setCell ⟨gb270, 5, none⟩ (.slice A271_5 ((rd_T34 t242 0).f5).length c271_5)) w.heap.size (fun k_ => some k_ ≠ (.slice Ao16 t252.length co16 : Value).ownBlock ∧ some k_ ≠ (.slice (some ad269) t264.length co88 : Value).ownBlock ∧ k_ ≠ gb246 ∧ k_ ≠ gb256 ∧ k_ ≠ gb268 ∧ k_ ≠ gb270) (.slice (some ad271) t242.length co11) t242) := ⟨by (with_reducible repeat (first | apply Kd.N_alloc | apply Kd.N_drewN | apply Kd.N_drew)); exact Kd.N_mono (Kd.N_far (p := ⟨gb270, 5, none⟩) (Kd.N_mono HO_247005.out (fun k_ hk => (⟨hk, hk.2.2.2.2.2⟩ : _ ∧ k_ ≠ gb270))) (fun _ hk => hk.2) (.slice A271_5 ((rd_T34 t242 0).f5).length c271_5)) (fun _ hk => ⟨hk.1.1, ⟨hk.1.2.1, ⟨hk.1.2.2.1, ⟨hk.1.2.2.2.1, ⟨hk.1.2.2.2.2.1, hk.1.2.2.2.2.2⟩⟩⟩⟩⟩)⟩
        have n1_ : Aside0 (Kd.N k34 34 (w96.setCell ⟨gb270, 5, none⟩ (.slice A271_5 ((rd_T34 t242 0).f5).length c271_5)) w.heap.size (fun k_ => some k_ ≠ (.slice (some ad271) t242.length co11 : Value).ownBlock ∧ some k_ ≠ (.slice (some ad269) t264.length co88 : Value).ownBlock ∧ k_ ≠ gb246 ∧ k_ ≠ gb256 ∧ k_ ≠ gb268 ∧ k_ ≠ gb270) (.slice Ao16 t252.length co16) t252) := ⟨by (with_reducible repeat (first | apply Kd.N_alloc | apply Kd.N_drewN | apply Kd.N_drew)); exact Kd.N_mono (Kd.N_far (p := ⟨gb270, 5, none⟩) (Kd.N_mono HO_257005.out (fun k_ hk => (⟨hk, hk.2.2.2.2.2⟩ : _ ∧ k_ ≠ gb270))) (fun _ hk => hk.2) (.slice A271_5 ((rd_T34 t242 0).f5).length c271_5)) (fun _ hk => ⟨hk.1.1, ⟨hk.1.2.1, ⟨hk.1.2.2.1, ⟨hk.1.2.2.2.1, ⟨hk.1.2.2.2.2.1, hk.1.2.2.2.2.2⟩⟩⟩⟩⟩)⟩
        have n2_ : Aside0 (Kd.N k34 34 (w96.setCell ⟨gb270, 5, none⟩ (.slice A271_5 ((rd_T34 t242 0).f5).length c271_5)) w.heap.size (fun k_ => some k_ ≠ (.slice (some ad271) t242.length co11 : Value).ownBlock ∧ some k_ ≠ (.slice Ao16 t252.length co16 : Value).ownBlock ∧ k_ ≠ gb246 ∧ k_ ≠ gb256 ∧ k_ ≠ gb268 ∧ k_ ≠ gb270) (.slice (some ad269) t264.length co88) t264) := ⟨by (with_reducible repeat (first | apply Kd.N_alloc | apply Kd.N_drewN | apply Kd.N_drew)); exact Kd.N_mono (Kd.N_far (p := ⟨gb270, 5, none⟩) (Kd.N_mono HO266.out (fun k_ hk => (⟨hk, hk.2.2.2.2.2⟩ : _ ∧ k_ ≠ gb270))) (fun _ hk => hk.2) (.slice A271_5 ((rd_T34 t242 0).f5).length c271_5)) (fun _ hk => ⟨hk.1.1, ⟨hk.1.2.1, ⟨hk.1.2.2.1, ⟨hk.1.2.2.2.1, ⟨hk.1.2.2.2.2.1, hk.1.2.2.2.2.2⟩⟩⟩⟩⟩)⟩
        have n3_ : Aside0 (Kd.V (Kd.int .i64) 3 (w96.setCell ⟨gb270, 5, none⟩ (.slice A271_5 ((rd_T34 t242 0).f5).length c271_5)) w.heap.size (fun k_ => some k_ ≠ (.slice (some ad271) t242.length co11 : Value).ownBlock ∧ some k_ ≠ (.slice Ao16 t252.length co16 : Value).ownBlock ∧ some k_ ≠ (.slice (some ad269) t264.length co88 : Value).ownBlock ∧ k_ ≠ gb246 ∧ k_ ≠ gb256 ∧ k_ ≠ gb268 ∧ k_ ≠ gb270) (.slice A269_3 ((rd_T34 t264 0).f3).length c269_3) ((rd_T34 t264 0).f3)) := ⟨by (with_reducible repeat (first | apply Kd.V_alloc | apply Kd.V_drewN | apply Kd.V_drew)); exact Kd.V_mono (Kd.V_far (p := ⟨gb270, 5, none⟩) (Kd.V_mono HL269_3.out (fun k_ hk => (⟨hk, hk.2.2.2.2.2.2⟩ : _ ∧ k_ ≠ gb270))) (fun _ hk => hk.2) (.slice A271_5 ((rd_T34 t242 0).f5).length c271_5)) (fun _ hk => ⟨hk.1.1, ⟨hk.1.2.1, ⟨hk.1.2.2.1, ⟨hk.1.2.2.2.1, ⟨hk.1.2.2.2.2.1, ⟨hk.1.2.2.2.2.2.1, hk.1.2.2.2.2.2.2⟩⟩⟩⟩⟩⟩)⟩
        have n4_ : Aside0 (Kd.V (Kd.int .i64) 3 (w96.setCell ⟨gb270, 5, none⟩ (.slice A271_5 ((rd_T34 t242 0).f5).length c271_5)) w.heap.size (fun k_ => some k_ ≠ (.slice (some ad271) t242.length co11 : Value).ownBlock ∧ some k_ ≠ (.slice Ao16 t252.length co16 : Value).ownBlock ∧ some k_ ≠ (.slice (some ad269) t264.length co88 : Value).ownBlock ∧ k_ ≠ gb246 ∧ k_ ≠ gb256 ∧ k_ ≠ gb268 ∧ k_ ≠ gb270) (.slice A269_5 ((rd_T34 t264 0).f5).length c269_5) ((rd_T34 t264 0).f5)) := ⟨by (with_reducible repeat (first | apply Kd.V_alloc | apply Kd.V_drewN | apply Kd.V_drew)); exact Kd.V_mono (Kd.V_far (p := ⟨gb270, 5, none⟩) (Kd.V_mono HL269_5.out (fun k_ hk => (⟨hk, hk.2.2.2.2.2.2⟩ : _ ∧ k_ ≠ gb270))) (fun _ hk => hk.2) (.slice A271_5 ((rd_T34 t242 0).f5).length c271_5)) (fun _ hk => ⟨hk.1.1, ⟨hk.1.2.1, ⟨hk.1.2.2.1, ⟨hk.1.2.2.2.1, ⟨hk.1.2.2.2.2.1, ⟨hk.1.2.2.2.2.2.1, hk.1.2.2.2.2.2.2⟩⟩⟩⟩⟩⟩)⟩
        have n5_ : Aside0 (Kd.V (Kd.int .i64) 3 (w96.setCell ⟨gb270, 5, none⟩ (.slice A271_5 ((rd_T34 t242 0).f5).length c271_5)) w.heap.size (fun k_ => some k_ ≠ (.slice (some ad271) t242.length co11 : Value).ownBlock ∧ some k_ ≠ (.slice Ao16 t252.length co16 : Value).ownBlock ∧ some k_ ≠ (.slice (some ad269) t264.length co88 : Value).ownBlock ∧ k_ ≠ gb246 ∧ k_ ≠ gb256 ∧ k_ ≠ gb268 ∧ k_ ≠ gb270) (.slice A271_3 ((rd_T34 t242 0).f3).length c271_3) ((rd_T34 t242 0).f3)) := ⟨by (with_reducible repeat (first | apply Kd.V_alloc | apply Kd.V_drewN | apply Kd.V_drew)); exact Kd.V_mono (Kd.V_far (p := ⟨gb270, 5, none⟩) (Kd.V_mono HL271_3.out (fun k_ hk => (⟨hk, hk.1.2.2.2.2.2⟩ : _ ∧ k_ ≠ gb270))) (fun _ hk => hk.2) (.slice A271_5 ((rd_T34 t242 0).f5).length c271_5)) (fun _ hk => ⟨hk.1.2, ⟨hk.1.1.1, ⟨hk.1.1.2.1, ⟨hk.1.1.2.2.1, ⟨hk.1.1.2.2.2.1, ⟨hk.1.1.2.2.2.2.1, hk.1.1.2.2.2.2.2⟩⟩⟩⟩⟩⟩)⟩
        have n6_ : Aside0 (Kd.V (Kd.int .i64) 3 (w96.setCell ⟨gb270, 5, none⟩ (.slice A271_5 ((rd_T34 t242 0).f5).length c271_5)) w.heap.size (fun k_ => some k_ ≠ (.slice (some ad271) t242.length co11 : Value).ownBlock ∧ some k_ ≠ (.slice Ao16 t252.length co16 : Value).ownBlock ∧ some k_ ≠ (.slice (some ad269) t264.length co88 : Value).ownBlock ∧ k_ ≠ gb246 ∧ k_ ≠ gb256 ∧ k_ ≠ gb268 ∧ k_ ≠ gb270) (.slice A271_5 ((rd_T34 t242 0).f5).length c271_5) ((rd_T34 t242 0).f5)) := ⟨by (with_reducible repeat (first | apply Kd.V_alloc | apply Kd.V_drewN | apply Kd.V_drew)); exact Kd.V_mono (Kd.V_far (p := ⟨gb270, 5, none⟩) (Kd.V_mono HL271_5.out (fun k_ hk => (⟨hk, hk.1.2.2.2.2.2⟩ : _ ∧ k_ ≠ gb270))) (fun _ hk => hk.2) (.slice A271_5 ((rd_T34 t242 0).f5).length c271_5)) (fun _ hk => ⟨hk.1.2, ⟨hk.1.1.1, ⟨hk.1.1.2.1, ⟨hk.1.1.2.2.1, ⟨hk.1.1.2.2.2.1, ⟨hk.1.1.2.2.2.2.1, hk.1.1.2.2.2.2.2⟩⟩⟩⟩⟩⟩)⟩
        have n7_ : Aside0 ((w96.setCell ⟨gb270, 5, none⟩ (.slice A271_5 ((rd_T34 t242 0).f5).length c271_5)).heap[gb246]? = some (.cells #[.bool t237, .bool t238, .int .i64 t239, .int .i64 t240, .int .i64 t241, .slice (some ad271) t242.length co11] 27 (0, 0))) := ⟨by (with_reducible repeat (first | refine zzf ?_ _ | refine zzg ?_ | refine zze ?_ _)); refine zzj ?_ NB246_270.out _; (with_reducible repeat (first | refine zzf ?_ _ | refine zzg ?_ | refine zze ?_ _)); exact BK246.out⟩
        have n8_ : Aside0 ((w96.setCell ⟨gb270, 5, none⟩ (.slice A271_5 ((rd_T34 t242 0).f5).length c271_5)).heap[gb256]? = some (.cells #[.bool t247, .bool t248, .int .i64 t249, .int .i64 t250, .int .i64 t251, .slice Ao16 t252.length co16] 27 (0, 0))) := ⟨by (with_reducible repeat (first | refine zzf ?_ _ | refine zzg ?_ | refine zze ?_ _)); refine zzj ?_ NB256_270.out _; (with_reducible repeat (first | refine zzf ?_ _ | refine zzg ?_ | refine zze ?_ _)); exact BK256.out⟩
        have n9_ : Aside0 ((w96.setCell ⟨gb270, 5, none⟩ (.slice A271_5 ((rd_T34 t242 0).f5).length c271_5)).heap[gb268]? = some (.cells #[.bool t259, .bool t260, .int .i64 t261, .int .i64 t262, .int .i64 t263, .slice (some ad269) t264.length co88] 27 (0, 0))) := ⟨by (with_reducible repeat (first | refine zzf ?_ _ | refine zzg ?_ | refine zze ?_ _)); refine zzj ?_ NB268_270.out _; (with_reducible repeat (first | refine zzf ?_ _ | refine zzg ?_ | refine zze ?_ _)); exact BK268.out⟩
        have n10_ : Aside0 ((w96.setCell ⟨gb270, 5, none⟩ (.slice A271_5 ((rd_T34 t242 0).f5).length c271_5)).heap[gb270]? = some (.cells #[.int .i64 ((rd_T34 t264 0).f0), .int .i64 ((rd_T34 t264 0).f1), .bool ((rd_T34 t264 0).f2), .slice A269_3 ((rd_T34 t264 0).f3).length c269_3, .bool ((rd_T34 t264 0).f4), .slice A271_5 ((rd_T34 t242 0).f5).length c271_5] 34 (0, 0))) := ⟨by (with_reducible repeat (first | refine zzf ?_ _ | refine zzg ?_ | refine zze ?_ _)); refine zzi (cs := #[.int .i64 ((rd_T34 t264 0).f0), .int .i64 ((rd_T34 t264 0).f1), .bool ((rd_T34 t264 0).f2), .slice A269_3 ((rd_T34 t264 0).f3).length c269_3, .bool ((rd_T34 t264 0).f4), .slice A269_5 ((rd_T34 t264 0).f5).length c269_5]) ?_ 5 _ rfl; (with_reducible repeat (first | refine zzf ?_ _ | refine zzg ?_ | refine zze ?_ _)); exact BK270.out⟩
        have n11_ : Aside0 (Below w.heap.size w (w96.setCell ⟨gb270, 5, none⟩ (.slice A271_5 ((rd_T34 t242 0).f5).length c271_5))) := ⟨by repeat (first | (with_reducible first | exact HB.out | apply zza | apply zzb | apply zzc | refine zzd ?_ GE246.out | refine zzd ?_ GE256.out | refine zzd ?_ GE268.out | refine zzd ?_ GE270.out) | exact HB.out)⟩
        (try clear HO_247005)
        (try clear HO_257005)
        (try clear HO266)
        (try clear HL269_3)
        (try clear HL269_5)
        (try clear HL271_3)
        (try clear HL271_5)
        (try clear BK246)
        (try clear BK256)
        (try clear BK268)
        (try clear BK270)
        (try clear HB)
        generalize (w96.setCell ⟨gb270, 5, none⟩ (.slice A271_5 ((rd_T34 t242 0).f5).length c271_5)) = w100 at n0_ n1_ n2_ n3_ n4_ n5_ n6_ n7_ n8_ n9_ n10_ n11_ ⊢
        have HO_247005 := n0_
        have HO_257005 := n1_
        have HO266 := n2_
        have HL269_3 := n3_
        have HL269_5 := n4_
        have HL271_3 := n5_
        have HL271_5 := n6_
        have BK246 := n7_
        have BK256 := n8_
        have BK268 := n9_
        have BK270 := n10_
        have HB := n11_
        clear n0_ n1_ n2_ n3_ n4_ n5_ n6_ n7_ n8_ n9_ n10_ n11_
        have n0_ := zzm (Kd.N_drew HO_247005.out)
        have n1_ := zzm (Kd.N_drew HO_257005.out)
        have n2_ := zzm (Kd.N_drew HO266.out)
        have n3_ := zzm (Kd.V_drew HL269_3.out)
        have n4_ := zzm (Kd.V_drew HL269_5.out)
        have n5_ := zzm (Kd.V_drew HL271_3.out)
        have n6_ := zzm (Kd.V_drew HL271_5.out)
        have n7_ := zzm (zzg BK246.out)
        have n8_ := zzm (zzg BK256.out)
        have n9_ := zzm (zzg BK268.out)
        have n10_ := zzm (zzg BK270.out)
        have n11_ := zzm (zzc HB.out)
        clear HO_247005
        clear HO_257005
        clear HO266
        clear HL269_3
        clear HL269_5
        clear HL271_3
        clear HL271_5
        clear BK246
        clear BK256
        clear BK268
        clear BK270
        clear HB
        have HO_247005 := n0_
        have HO_257005 := n1_
        have HO266 := n2_
        have HL269_3 := n3_
        have HL269_5 := n4_
        have HL271_3 := n5_
        have HL271_5 := n6_
        have BK246 := n7_
        have BK256 := n8_
        have BK268 := n9_
        have BK270 := n10_
        have HB := n11_
        clear n0_ n1_ n2_ n3_ n4_ n5_ n6_ n7_ n8_ n9_ n10_ n11_
        refine start_ (n := 16) (S := fun w' => True) (ds := []) #[false, false, false, false, false, false, false, false, false, false, false, false, false, false, false, false] (by kernel_rfl) rfl rfl trivial (fun hHeld => ?_); refine with_tabW laws_FnMarkBatchTwo.tab11 laws_FnMarkBatchTwo.bits11 (fun HT_ HW_ => ?_)
        generalize w100.drew = w101 at HO_247005 HO_257005 HO266 HL269_3 HL269_5 HL271_3 HL271_5 BK246 BK256 BK268 BK270 HB hHeld ⊢
        refine pure_ (i := 0) (N := some 85) (v := ?_) (a' := ?_) #[true, false, false, false, false, false, false, false, false, false, false, false, false, false, false, false] rfl rfl (any_of HT_.out (by kernel_rfl)) (fun _ _ _ h => h) (Or.inl ⟨by rfl, ?_⟩) ?_ ?_
        rotate_left
        ·
         intro w'
         go_simp
         with_reducible rfl
        rotate_left
        ·
         simp only [Act.put, zzq, zzr, zzs, i64_w, i32_w]
         rfl
        refine pure_ (i := 1) (N := some 86) (v := ?_) (a' := ?_) #[true, true, false, false, false, false, false, false, false, false, false, false, false, false, false, false] rfl rfl (any_of HT_.out (by kernel_rfl)) (fun _ _ _ h => h) (Or.inl ⟨by rfl, ?_⟩) ?_ ?_
        rotate_left
        ·
         intro w'
         go_simp
         with_reducible rfl
        rotate_left
        ·
         simp only [Act.put, zzq, zzr, zzs, i64_w, i32_w]
         rfl
        refine pure_ (i := 2) (N := some 87) (v := undef) (a' := ?_) #[true, true, true, false, false, false, false, false, false, false, false, false, false, false, false, false] rfl rfl (any_of HT_.out (by kernel_rfl)) (fun _ _ _ h => h) (Or.inr ⟨by rfl, rfl⟩) ?_ ?_
        rotate_left
        ·
         simp only [Act.put, zzq, zzr, zzs, i64_w, i32_w]
         rfl
        refine pure_ (i := 3) (N := some 88) (v := undef) (a' := ?_) #[true, true, true, true, false, false, false, false, false, false, false, false, false, false, false, false] rfl rfl (any_of HT_.out (by kernel_rfl)) (fun _ _ _ h => h) (Or.inr ⟨by rfl, rfl⟩) ?_ ?_
        rotate_left
        ·
         simp only [Act.put, zzq, zzr, zzs, i64_w, i32_w]
         rfl
        refine pure_ (i := 4) (N := some 89) (v := undef) (a' := ?_) #[true, true, true, true, true, false, false, false, false, false, false, false, false, false, false, false] rfl rfl (any_of HT_.out (by kernel_rfl)) (fun _ _ _ h => h) (Or.inr ⟨by rfl, rfl⟩) ?_ ?_
        rotate_left
        ·
         simp only [Act.put, zzq, zzr, zzs, i64_w, i32_w]
         rfl
        refine pure_ (i := 5) (N := some 90) (v := undef) (a' := ?_) #[true, true, true, true, true, true, false, false, false, false, false, false, false, false, false, false] rfl rfl (any_of HT_.out (by kernel_rfl)) (fun _ _ _ h => h) (Or.inr ⟨by rfl, rfl⟩) ?_ ?_
        rotate_left
        ·
         simp only [Act.put, zzq, zzr, zzs, i64_w, i32_w]
         rfl
        refine pure_ (i := 6) (N := some 91) (v := ?_) (a' := ?_) #[true, true, true, true, true, true, true, false, false, false, false, false, false, false, false, false] rfl rfl (any_of HT_.out (by kernel_rfl)) (fun _ _ _ h => h) (Or.inl ⟨by rfl, ?_⟩) ?_ ?_
        rotate_left
        ·
         intro w'
         go_simp
         with_reducible rfl
        rotate_left
        ·
         simp only [Act.put, zzq, zzr, zzs, i64_w, i32_w]
         rfl
        refine pure_ (i := 7) (N := some 92) (v := ?_) (a' := ?_) #[true, true, true, true, true, true, true, true, false, false, false, false, false, false, false, false] rfl rfl (any_of HT_.out (by kernel_rfl)) (fun _ _ _ h => h) (Or.inl ⟨by rfl, ?_⟩) ?_ ?_
        rotate_left
        ·
         intro w'
         go_simp
         with_reducible rfl
        rotate_left
        ·
         simp only [Act.put, zzq, zzr, zzs, i64_w, i32_w]
         rfl
        refine pure_ (i := 8) (N := some 93) (v := undef) (a' := ?_) #[true, true, true, true, true, true, true, true, true, false, false, false, false, false, false, false] rfl rfl (any_of HT_.out (by kernel_rfl)) (fun _ _ _ h => h) (Or.inr ⟨by rfl, rfl⟩) ?_ ?_
        rotate_left
        ·
         simp only [Act.put, zzq, zzr, zzs, i64_w, i32_w]
         rfl
        refine pure_ (i := 9) (N := some 94) (v := undef) (a' := ?_) #[true, true, true, true, true, true, true, true, true, true, false, false, false, false, false, false] rfl rfl (any_of HT_.out (by kernel_rfl)) (fun _ _ _ h => h) (Or.inr ⟨by rfl, rfl⟩) ?_ ?_
        rotate_left
        ·
         simp only [Act.put, zzq, zzr, zzs, i64_w, i32_w]
         rfl
        refine pure_ (i := 10) (N := some 95) (v := undef) (a' := ?_) #[true, true, true, true, true, true, true, true, true, true, true, false, false, false, false, false] rfl rfl (any_of HT_.out (by kernel_rfl)) (fun _ _ _ h => h) (Or.inr ⟨by rfl, rfl⟩) ?_ ?_
        rotate_left
        ·
         simp only [Act.put, zzq, zzr, zzs, i64_w, i32_w]
         rfl
        refine pure_ (i := 11) (N := some 96) (v := undef) (a' := ?_) #[true, true, true, true, true, true, true, true, true, true, true, true, false, false, false, false] rfl rfl (any_of HT_.out (by kernel_rfl)) (fun _ _ _ h => h) (Or.inr ⟨by rfl, rfl⟩) ?_ ?_
        rotate_left
        ·
         simp only [Act.put, zzq, zzr, zzs, i64_w, i32_w]
         rfl
        refine pure_ (i := 12) (N := some 97) (v := undef) (a' := ?_) #[true, true, true, true, true, true, true, true, true, true, true, true, true, false, false, false] rfl rfl (any_of HT_.out (by kernel_rfl)) (fun _ _ _ h => h) (Or.inr ⟨by rfl, rfl⟩) ?_ ?_
        rotate_left
        ·
         simp only [Act.put, zzq, zzr, zzs, i64_w, i32_w]
         rfl
        refine pure_ (i := 13) (N := some 98) (v := undef) (a' := ?_) #[true, true, true, true, true, true, true, true, true, true, true, true, true, true, false, false] rfl rfl (any_of HT_.out (by kernel_rfl)) (fun _ _ _ h => h) (Or.inr ⟨by rfl, rfl⟩) ?_ ?_
        rotate_left
        ·
         simp only [Act.put, zzq, zzr, zzs, i64_w, i32_w]
         rfl
        refine pure_ (i := 14) (N := some 99) (v := ?_) (a' := ?_) #[true, true, true, true, true, true, true, true, true, true, true, true, true, true, true, false] rfl rfl (any_of HT_.out (by kernel_rfl)) (fun _ _ _ h => h) (Or.inl ⟨by rfl, ?_⟩) ?_ ?_
        rotate_left
        ·
         intro w'
         go_simp
         with_reducible rfl
        rotate_left
        ·
         simp only [Act.put, zzq, zzr, zzs, i64_w, i32_w]
         rfl
        refine pure_ (i := 15) (N := some 2) (v := ?_) (a' := ?_) #[true, true, true, true, true, true, true, true, true, true, true, true, true, true, true, true] rfl rfl (any_of HT_.out (by kernel_rfl)) (fun _ _ _ h => h) (Or.inl ⟨by rfl, ?_⟩) ?_ ?_
        rotate_left
        ·
         intro w'
         go_simp
         with_reducible rfl
        rotate_left
        ·
         simp only [Act.put, zzq, zzr, zzs, i64_w, i32_w]
         rfl
        refine done_ (done_of HT_.out (by kernel_rfl)) ?_
        try go_wp2
        go_ret
        exact ⟨by first | rfl | (simp [errW_none, errW_some] <;> rfl) | (simp [*, errW_none, errW_some] <;> rfl), by repeat (first | (with_reducible first | exact HB.out | apply zza | apply zzb | apply zzc | refine zzd ?_ GE246.out | refine zzd ?_ GE256.out | refine zzd ?_ GE268.out | refine zzd ?_ GE270.out) | exact HB.out)⟩
      ·
       rw [if_neg c37] at H
       exact absurd H (by simp)
     ·
      rw [if_neg c36] at H
      exact absurd H (by simp)
def laws_FnMarkBatchTwo.Pure : Prop := ∀ (l0 : List Int), l0.length ≤ maxLen → l0.length * 1 ≤ 140737488351232 → (∀ x ∈ l0, (Lit.int .u8 x).wf = true) → ∃ k, laws_FnMarkBatchTwo.f k l0 = some true
theorem laws_FnMarkBatchTwo.walk (P : laws_FnMarkBatchTwo.Pure) (a0 : Option Addr) (len0 cap0 : Nat) (z0 : List Int) (w : World) (w0 : (a0 = none ∧ len0 = 0 ∧ cap0 = 0 ∧ z0 = []) ∨ ∃ x, a0 = some x ∧ len0 ≤ cap0 ∧ cap0 ≤ maxLen ∧ z0.length = cap0 ∧ (∀ i, i < z0.length → w.cell? (x.add i) = some (.int .u8 (z0.getD i 0))) ∧ ∀ n ∈ z0, (Lit.int .u8 n).wf = true) (y0 : len0 * 1 ≤ 140737488351232) :
  Calls Try.prog 4 #[.slice a0 len0 cap0] w fun e w' => e = .returned (.bool true) ∧ Below w.heap.size w w' := by
 obtain ⟨l0, rfl, hr0, hm0, hw0, hc0⟩ := ReadsInt.ofRowC w0
 obtain ⟨k, h⟩ := P l0 hm0 y0 hw0
 refine (laws_FnMarkBatchTwo.calls k _ _ l0 true w (Kd.C_of_reads (d := (0 : Int)) (h1 := fun _ => rfl) hr0) hc0 h).mono ?_
 rintro e w' ⟨rfl, hd⟩
 exact ⟨rfl, hd⟩
end Go.Proofs.Yticpnjhkdfdkkaa.T
namespace Go.Proofs.Yticpnjhkdfdkkaa.Q
open Go.RowKit Go.Proofs.YticpnjhkdfdkkaaW.PrintWords
set_option linter.unusedVariables false
set_option linter.unusedSimpArgs false
theorem ev_succ {α : Type} {g : Nat → Option α} {r : α} (h : Ev (fun k => g (k + 1)) r) : Ev g r := Ev.step (f := fun k => g (k + 1)) (fun _ => rfl) h
theorem ev_of_all {α : Type} {g : Nat → Option α} {r : α} (h : ∀ k, g k = some r) : Ev g r := ⟨0, fun k _ => h k⟩
theorem ev_some {α : Type} (r : α) : Ev (fun _ => some r) r := ev_of_all fun _ => rfl
def Evs {α : Type} (g : Nat → Option α) (Q : α → Prop) : Prop := ∃ r, Ev g r ∧ Q r
theorem Evs.of {α : Type} {g : Nat → Option α} {Q : α → Prop} {r : α} (h : Ev g r) (hq : Q r) : Evs g Q := ⟨r, h, hq⟩
theorem Evs.done {α : Type} {Q : α → Prop} {r : α} (hq : Q r) : Evs (fun _ => some r) Q := ⟨r, ev_some r, hq⟩
theorem Evs.mono {α : Type} {g : Nat → Option α} {Q Q' : α → Prop} (h : Evs g Q) (hq : ∀ r, Q r → Q' r) : Evs g Q' := by
  obtain ⟨r, h1, h2⟩ := h
  exact ⟨r, h1, hq r h2⟩
theorem Evs.succ {α : Type} {g : Nat → Option α} {Q : α → Prop} (h : Evs (fun k => g (k + 1)) Q) : Evs g Q := by
  obtain ⟨r, h1, h2⟩ := h
  exact ⟨r, ev_succ h1, h2⟩
theorem Evs.bind {α β : Type} {g : Nat → Option α} {f : Nat → α → Option β} {Q : α → Prop} {R : β → Prop} (h : Evs g Q) (k : ∀ a, Q a → Evs (fun n => f n a) R) : Evs (fun n => (g n).bind (f n)) R := by
  obtain ⟨a, h1, h2⟩ := h
  obtain ⟨r, k1, k2⟩ := k a h2
  exact ⟨r, Ev.bind h1 k1, k2⟩
theorem bsome {α β : Type} (a : α) (f : α → Option β) : (some a).bind f = f a := Eq.trans (Option.bind_some a f) (Eq.refl _)
end Go.Proofs.Yticpnjhkdfdkkaa.Q
namespace Go.Proofs.Yticpnjhkdfdkkaa.Q
open Go.RowKit Go.Proofs.Yticpnjhkdfdkkaa.T Go.Proofs.YticpnjhkdfdkkaaW.PrintWords Go.Proofs.YticpnjhkdfdkkaaW.PrintLast
set_option linter.unusedVariables false
set_option linter.unusedSimpArgs false
theorem wrap_id {x : Int} (h0 : -9223372036854775808 ≤ x) (h1 : x < 9223372036854775808) : wrap64 x = x := by unfold wrap64; omega
theorem tmod_range {x n : Int} (h : 0 ≤ x) (hn : 1 ≤ n) : 0 ≤ Int.tmod x n ∧ Int.tmod x n < n := by
  rw [Int.tmod_eq_emod_of_nonneg h]
  exact ⟨Int.emod_nonneg _ (by omega), Int.emod_lt_of_pos _ (by omega)⟩
theorem xor_nonneg {a b : Int} (h1 : 0 ≤ a) (h2 : a < 4611686018427387904) (h3 : 0 ≤ b) (h4 : b < 4611686018427387904) : 0 ≤ Go.bits .xor .i64 a b := by
  obtain ⟨A, rfl⟩ := Int.eq_ofNat_of_zero_le h1
  obtain ⟨B, rfl⟩ := Int.eq_ofNat_of_zero_le h3
  have hx : A ^^^ B < 2 ^ 62 := Nat.xor_lt_two_pow (by omega) (by omega)
  have e1 : (BitVec.ofInt 64 (A : Int)).toNat = A := by
    rw [BitVec.ofInt_natCast, BitVec.toNat_ofNat]; exact Nat.mod_eq_of_lt (by omega)
  have e2 : (BitVec.ofInt 64 (B : Int)).toNat = B := by
    rw [BitVec.ofInt_natCast, BitVec.toNat_ofNat]; exact Nat.mod_eq_of_lt (by omega)
  show 0 ≤ IntKind.i64.wrap ((BitVec.ofInt 64 (A : Int) ^^^ BitVec.ofInt 64 (B : Int)).toNat : Int)
  rw [BitVec.toNat_xor, e1, e2]
  simp only [IntKind.wrap, IntKind.bits, IntKind.signed]
  simp
  omega
def Bytes (b : List Int) : Prop := ∀ x ∈ b, 0 ≤ x ∧ x ≤ 255
theorem rd_bytes {b : List Int} (h : Bytes b) (i : Int) : 0 ≤ rd b i ∧ rd b i ≤ 255 := by
  unfold rd
  rw [List.getD_eq_getElem?_getD]
  cases e : b[i.toNat]? with
  | none => simp
  | some x => exact h x (List.mem_of_getElem? e)
theorem pick_ev (b : List Int) (p n : Int) (hb : Bytes b) (hl : b.length ≤ 2000) (h0 : 0 ≤ p) (h1 : p ≤ 1000000000) (hn : 1 ≤ n) :
    ∃ v, Ev (fun k => spec_l6Rd_pick.f k b p n) (v, p + 1) ∧ 0 ≤ v ∧ v < n := by
  have e1 : wrap64 (p + 1) = p + 1 := wrap_id (by omega) (by omega)
  have e2 : wrap64 (p + 1 - 1) = p := by rw [wrap_id (by omega) (by omega)]; omega
  by_cases hz : b.length = 0
  · refine ⟨0, ⟨1, fun k hk => ?_⟩, by omega, by omega⟩
    obtain ⟨k, rfl⟩ : ∃ m, k = m + 1 := ⟨k - 1, by omega⟩
    show spec_l6Rd_pick.f (k + 1) b p n = _
    unfold spec_l6Rd_pick.f
    rw [if_neg (by omega), e1]
    simp [spec_l6Rd_pick.j0, hz]
  · have hz' : (((b.length : Int) == 0) = true) = False := by simp; intro h; simp [h] at hz
    by_cases hlt : p < (b.length : Int)
    · obtain ⟨r0, r1⟩ := rd_bytes hb p
      have := tmod_range (x := rd b p) r0 hn
      refine ⟨Int.tmod (rd b p) n, ⟨1, fun k hk => ?_⟩, this.1, this.2⟩
      obtain ⟨k, rfl⟩ : ∃ m, k = m + 1 := ⟨k - 1, by omega⟩
      show spec_l6Rd_pick.f (k + 1) b p n = _
      unfold spec_l6Rd_pick.f
      rw [if_neg (by omega), e1]
      simp only [spec_l6Rd_pick.j0, e2, hz']
      rw [if_neg (by simp), if_pos hlt, if_pos h0, if_neg (by omega), wrap_id (by omega) (by omega)]
    · obtain ⟨q0, q1⟩ := tmod_range (x := p) (n := (b.length : Int)) h0 (by omega)
      obtain ⟨r0, r1⟩ := rd_bytes hb (Int.tmod p (b.length : Int))
      have f1 : wrap64 (p * 7) = p * 7 := wrap_id (by omega) (by omega)
      have f2 : wrap64 (p * 7 + 3) = p * 7 + 3 := wrap_id (by omega) (by omega)
      obtain ⟨q2, q3⟩ := tmod_range (x := p * 7 + 3) (n := (b.length : Int)) (by omega) (by omega)
      obtain ⟨r2, r3⟩ := rd_bytes hb (Int.tmod (p * 7 + 3) (b.length : Int))
      have d0 : 0 ≤ Int.tdiv p (b.length : Int) ∧ Int.tdiv p (b.length : Int) ≤ p := by
        rw [Int.tdiv_eq_ediv_of_nonneg h0]
        exact ⟨Int.ediv_nonneg h0 (by omega), Int.ediv_le_self _ h0⟩
      obtain ⟨x, hx⟩ : ∃ x, x = rd b (Int.tmod p (b.length : Int)) := ⟨_, rfl⟩
      obtain ⟨y, hy⟩ : ∃ y, y = rd b (Int.tmod (p * 7 + 3) (b.length : Int)) := ⟨_, rfl⟩
      obtain ⟨z, hz2⟩ : ∃ z, z = Int.tdiv p (b.length : Int) := ⟨_, rfl⟩
      obtain ⟨s, hs⟩ : ∃ s, s = x * 131 + y * 1117 + p * 29 + z * 53 := ⟨_, rfl⟩
      rw [← hx] at r0 r1
      rw [← hy] at r2 r3
      rw [← hz2] at d0
      have s0 : 0 ≤ s ∧ s < 4611686018427387904 := by omega
      have t0 : 0 ≤ Int.tdiv s 64 ∧ Int.tdiv s 64 ≤ s := by
        rw [Int.tdiv_eq_ediv_of_nonneg s0.1]
        exact ⟨Int.ediv_nonneg s0.1 (by omega), Int.ediv_le_self _ s0.1⟩
      have w1 : wrap64 x = x := wrap_id (by omega) (by omega)
      have w2 : wrap64 y = y := wrap_id (by omega) (by omega)
      have w3 : wrap64 z = z := wrap_id (by omega) (by omega)
      have w4 : wrap64 (x * 131) = x * 131 := wrap_id (by omega) (by omega)
      have w5 : wrap64 (y * 1117) = y * 1117 := wrap_id (by omega) (by omega)
      have w6 : wrap64 (p * 29) = p * 29 := wrap_id (by omega) (by omega)
      have w7 : wrap64 (z * 53) = z * 53 := wrap_id (by omega) (by omega)
      have w8 : wrap64 (x * 131 + y * 1117) = x * 131 + y * 1117 := wrap_id (by omega) (by omega)
      have w9 : wrap64 (x * 131 + y * 1117 + p * 29) = x * 131 + y * 1117 + p * 29 := wrap_id (by omega) (by omega)
      have wa : wrap64 (x * 131 + y * 1117 + p * 29 + z * 53) = s := by rw [hs]; exact wrap_id (by omega) (by omega)
      have wb : wrap64 (Int.tdiv s 64) = Int.tdiv s 64 := wrap_id (by omega) (by omega)
      have := tmod_range (x := Go.bits .xor .i64 s (Int.tdiv s 64)) (n := n) (xor_nonneg s0.1 s0.2 t0.1 (by omega)) hn
      refine ⟨_, ⟨1, fun k hk => ?_⟩, this.1, this.2⟩
      obtain ⟨k, rfl⟩ : ∃ m, k = m + 1 := ⟨k - 1, by omega⟩
      show spec_l6Rd_pick.f (k + 1) b p n = _
      unfold spec_l6Rd_pick.f
      rw [if_neg (by omega), e1]
      simp only [spec_l6Rd_pick.j0, e2, hz', f1, f2]
      rw [if_neg (by simp), if_neg hlt, if_neg (by omega), if_pos q0, if_pos q1, if_pos q2, if_pos q3, if_neg (by omega), ← hx, ← hy, ← hz2, w1, w2, w3, w4, w5, w6, w7, w8, w9, wa, wb]
theorem pick_evs (b : List Int) (p n : Int) (hb : Bytes b) (hl : b.length ≤ 2000) (h0 : 0 ≤ p) (h1 : p ≤ 1000000000) (hn : 1 ≤ n) :
    Evs (fun k => spec_l6Rd_pick.f k b p n) (fun r => 0 ≤ r.1 ∧ r.1 < n ∧ r.2 = p + 1) := by
  obtain ⟨v, h, v0, v1⟩ := pick_ev b p n hb hl h0 h1 hn
  exact ⟨_, h, v0, v1, rfl⟩
end Go.Proofs.Yticpnjhkdfdkkaa.Q
namespace Go.Proofs.Yticpnjhkdfdkkaa.Q
open Go.RowKit Go.Proofs.Yticpnjhkdfdkkaa.T Go.Proofs.YticpnjhkdfdkkaaW.PrintWords Go.Proofs.YticpnjhkdfdkkaaW.PrintLast
set_option linter.unusedVariables false
set_option linter.unusedSimpArgs false
theorem impl_within_eq (a b c : Int) : impl_within.f a b c = some (decide (b ≤ a ∧ a ≤ c)) := by
  unfold impl_within.f
  by_cases h : a ≥ b
  · rw [if_pos h]
    have : (b ≤ a ∧ a ≤ c) ↔ a ≤ c := ⟨fun h => h.2, fun h' => ⟨h, h'⟩⟩
    simp [this]
  · rw [if_neg h]
    have : ¬ (b ≤ a ∧ a ≤ c) := fun h' => h h'.1
    simp [this]
theorem spec_l6In_eq (a b c : Int) : spec_l6In.f a b c = some (decide (b ≤ a ∧ a ≤ c)) := by
  unfold spec_l6In.f
  by_cases h : a ≥ b
  · rw [if_pos h]
    have : (b ≤ a ∧ a ≤ c) ↔ a ≤ c := ⟨fun h => h.2, fun h' => ⟨h, h'⟩⟩
    simp [this]
  · rw [if_neg h]
    have : ¬ (b ≤ a ∧ a ≤ c) := fun h' => h h'.1
    simp [this]
end Go.Proofs.Yticpnjhkdfdkkaa.Q
namespace Go.Proofs.Yticpnjhkdfdkkaa.Q
open Go.RowKit Go.Proofs.Yticpnjhkdfdkkaa.T Go.Proofs.YticpnjhkdfdkkaaW.PrintWords Go.Proofs.YticpnjhkdfdkkaaW.PrintLast
set_option linter.unusedVariables false
set_option linter.unusedSimpArgs false
theorem rd_nat (l : List Int) (j : Nat) (h : j < l.length) : rd l (j : Int) = l[j] := by
  unfold rd
  rw [Int.toNat_natCast, List.getD_eq_getElem?_getD, List.getElem?_eq_getElem h]
  rfl
theorem drop_int {l : List Int} {i : Nat} (h : i < l.length) : l.drop i = rd l i :: l.drop (i + 1) := by
  rw [List.drop_eq_getElem_cons h, rd_nat l i h]
def ab (l : List Int) : Bool := decide (∀ x ∈ l, 0 ≤ x ∧ x ≤ 255)
theorem ab_cons (x : Int) (l : List Int) : ab (x :: l) = (decide (0 ≤ x ∧ x ≤ 255) && ab l) := by
  rw [Bool.eq_iff_iff]
  simp [ab, List.forall_mem_cons]
theorem ab_nil : ab [] = true := by simp [ab]
theorem isByte_eq (a : Int) : impl_isByte.f a = some (decide (0 ≤ a ∧ a ≤ 255)) := by
  unfold impl_isByte.f
  by_cases h : a ≥ 0
  · rw [if_pos h]
    have : (0 ≤ a ∧ a ≤ 255) ↔ a ≤ 255 := ⟨fun h => h.2, fun h' => ⟨h, h'⟩⟩
    simp [this]
  · rw [if_neg h]
    have : ¬ (0 ≤ a ∧ a ≤ 255) := fun h' => h h'.1
    simp [this]
theorem baseValid_eq (a b : Int) : impl_baseValid.f a b = some (decide ((0 ≤ a ∧ a ≤ 99999) ∧ (0 ≤ b ∧ b ≤ 99999))) := by
  unfold impl_baseValid.f
  rw [impl_within_eq, impl_within_eq]
  by_cases h : 0 ≤ a ∧ a ≤ 99999 <;> simp [h]
theorem idValid_eqB (a : Int) : impl_idValid.f a = some (decide (0 ≤ a ∧ a ≤ 254)) := by
  unfold impl_idValid.f
  rw [impl_within_eq]
  rfl
theorem implAll_loop (l : List Int) (hl : l.length ≤ 1000000000000000) : ∀ (d i : Nat), l.length - i = d → i ≤ l.length → Ev (fun k => impl_allBytes.l0 k l (l.length : Int) (i : Int)) (ab (l.drop i)) := by
  intro d
  induction d with
  | zero =>
    intro i hd hi
    rw [show l.drop i = [] from List.drop_eq_nil_of_le (by omega), ab_nil]
    refine ev_succ ?_
    simp only [impl_allBytes.l0, if_neg (show ¬ (i : Int) < (l.length : Int) by omega)]
    exact ev_some _
  | succ d ih =>
    intro i hd hi
    have e1 : wrap64 ((i : Int) + 1) = ((i + 1 : Nat) : Int) := by rw [wrap_id (by omega) (by omega)]; omega
    rw [drop_int (show i < l.length by omega), ab_cons]
    refine ev_succ ?_
    simp only [impl_allBytes.l0, if_pos (show (i : Int) < (l.length : Int) by omega), if_pos (show (0 : Int) ≤ i by omega), isByte_eq, bsome, decide_eq_true_eq, e1]
    by_cases h : 0 ≤ rd l (i : Int) ∧ rd l (i : Int) ≤ 255
    · simp only [if_pos h, decide_eq_true h, Bool.true_and]
      exact ih (i + 1) (by omega) (by omega)
    · simp only [if_neg h, decide_eq_false h, Bool.false_and]
      exact ev_some _
theorem implAll (l : List Int) (hl : l.length ≤ 1000000000000000) : Ev (fun k => impl_allBytes.f k l) (ab l) := by
  unfold impl_allBytes.f
  have := implAll_loop l hl l.length 0 (by omega) (by omega)
  simpa using this
theorem specAll_loop (l : List Int) (hl : l.length ≤ 1000000000000000) : ∀ (d i : Nat), l.length - i = d → i ≤ l.length → Ev (fun k => spec_l1Ok.l0 k l (i : Int)) (ab (l.drop i)) := by
  intro d
  induction d with
  | zero =>
    intro i hd hi
    rw [show l.drop i = [] from List.drop_eq_nil_of_le (by omega), ab_nil]
    refine ev_succ ?_
    simp only [spec_l1Ok.l0, if_neg (show ¬ (i : Int) < (l.length : Int) by omega)]
    exact ev_some _
  | succ d ih =>
    intro i hd hi
    have e1 : wrap64 ((i : Int) + 1) = ((i + 1 : Nat) : Int) := by rw [wrap_id (by omega) (by omega)]; omega
    rw [drop_int (show i < l.length by omega), ab_cons]
    refine ev_succ ?_
    simp only [spec_l1Ok.l0, if_pos (show (i : Int) < (l.length : Int) by omega), if_pos (show (0 : Int) ≤ i by omega), spec_l6In_eq, bsome, decide_eq_true_eq, e1]
    by_cases h : 0 ≤ rd l (i : Int) ∧ rd l (i : Int) ≤ 255
    · simp only [if_pos h, decide_eq_true h, Bool.true_and]
      exact ih (i + 1) (by omega) (by omega)
    · simp only [if_neg h, decide_eq_false h, Bool.false_and]
      exact ev_some _
theorem specAll (l : List Int) (hl : l.length ≤ 1000000000000000) : Ev (fun k => spec_l1Ok.f k l) (ab l) := by
  unfold spec_l1Ok.f
  have := specAll_loop l hl l.length 0 (by omega) (by omega)
  simpa using this
def pv (has : Bool) (l : List Int) : Bool := if has = true then decide (l.length ≤ 12) && ab l else decide (l.length = 0)
theorem implPart (has : Bool) (l : List Int) (hl : l.length ≤ 1000000000000000) : Ev (fun k => impl_partValid.f k has l) (pv has l) := by
  unfold impl_partValid.f pv
  cases has with
  | true =>
    simp only [if_true]
    by_cases h : (l.length : Int) ≤ 12
    · simp only [if_pos h, decide_eq_true (show l.length ≤ 12 by omega), Bool.true_and]
      exact Ev.bind (implAll l hl) (ev_some _)
    · simp only [if_neg h, decide_eq_false (show ¬ l.length ≤ 12 by omega), Bool.false_and]
      exact ev_some _
  | false =>
    simp only [Bool.false_eq_true, if_false]
    rw [show ((l.length : Int) == 0) = decide (l.length = 0) by rw [Bool.eq_iff_iff]; simp]
    exact ev_some _
theorem specPart (has : Bool) (l : List Int) (hl : l.length ≤ 1000000000000000) : Ev (fun k => spec_l3Part.f k has l) (pv has l) := by
  unfold spec_l3Part.f pv
  cases has with
  | true =>
    simp only [if_true]
    refine Ev.bind (specAll l hl) ?_
    by_cases h : ab l = true
    · simp only [if_pos h, h, Bool.and_true]
      rw [show decide ((l.length : Int) ≤ 12) = decide (l.length ≤ 12) by rw [decide_eq_decide]; omega]
      exact ev_some _
    · simp only [if_neg h, show ab l = false by simpa using h, Bool.and_false]
      exact ev_some _
  | false =>
    simp only [Bool.false_eq_true, if_false]
    by_cases h : l.length = 0
    · simp only [if_pos (show (l.length : Int) = 0 by omega), decide_eq_true h]
      refine Ev.bind (specAll l hl) ?_
      have hn : l = [] := List.length_eq_zero_iff.1 h
      subst hn
      simp only [ab_nil, if_true]
      exact ev_some _
    · simp only [if_neg (show ¬ (l.length : Int) = 0 by omega), decide_eq_false h]
      exact ev_some _
abbrev Rc := S34
abbrev rr (l : List Rc) (i : Int) : Rc := rd_T34 l i
theorem rr_nat (l : List Rc) (j : Nat) (h : j < l.length) : rr l (j : Int) = l[j] := by
  unfold rr rd_T34
  rw [Int.toNat_natCast, List.getD_eq_getElem?_getD, List.getElem?_eq_getElem h]
  rfl
def smallR (r : Rc) : Prop := r.f3.length ≤ 1000000000000000 ∧ r.f5.length ≤ 1000000000000000
def smallRs (l : List Rc) : Prop := l.length ≤ 1000000000000000 ∧ ∀ r ∈ l, smallR r
theorem smallRs_at {l : List Rc} (h : smallRs l) (j : Nat) (hj : j < l.length) : smallR (rr l (j : Int)) := by
  rw [rr_nat l j hj]
  exact h.2 _ (List.getElem_mem hj)
def rv (r : Rc) : Bool := decide ((0 ≤ r.f0 ∧ r.f0 ≤ 99999) ∧ (0 ≤ r.f1 ∧ r.f1 ≤ 99999)) && (pv r.f2 r.f3 && pv r.f4 r.f5)
theorem implRec (r : Rc) (h : smallR r) : Ev (fun k => impl_RecordValid.f k r.f0 r.f1 r.f2 r.f3 r.f4 r.f5) (rv r) := by
  unfold impl_RecordValid.f rv
  simp only [baseValid_eq, bsome, decide_eq_true_eq]
  by_cases h0 : (0 ≤ r.f0 ∧ r.f0 ≤ 99999) ∧ (0 ≤ r.f1 ∧ r.f1 ≤ 99999)
  · simp only [if_pos h0, decide_eq_true h0, Bool.true_and]
    refine Ev.bind (implPart _ _ h.1) ?_
    by_cases h1 : pv r.f2 r.f3 = true
    · simp only [if_pos h1, h1, Bool.true_and]
      exact Ev.bind (implPart _ _ h.2) (ev_some _)
    · simp only [if_neg h1, show pv r.f2 r.f3 = false by simpa using h1, Bool.false_and]
      exact ev_some _
  · simp only [if_neg h0, decide_eq_false h0, Bool.false_and]
    exact ev_some _
theorem specRec (r : Rc) (h : smallR r) : Ev (fun k => spec_RecordValid.f k r.f0 r.f1 r.f2 r.f3 r.f4 r.f5) (rv r) := by
  unfold spec_RecordValid.f rv
  simp only [spec_l6In_eq, bsome, decide_eq_true_eq]
  by_cases h0 : 0 ≤ r.f0 ∧ r.f0 ≤ 99999
  · by_cases h1 : 0 ≤ r.f1 ∧ r.f1 ≤ 99999
    · simp only [if_pos h0, if_pos h1, decide_eq_true (show (0 ≤ r.f0 ∧ r.f0 ≤ 99999) ∧ (0 ≤ r.f1 ∧ r.f1 ≤ 99999) from ⟨h0, h1⟩), Bool.true_and]
      refine Ev.bind (specPart _ _ h.1) ?_
      by_cases h2 : pv r.f2 r.f3 = true
      · simp only [if_pos h2, h2, Bool.true_and]
        exact Ev.bind (specPart _ _ h.2) (ev_some _)
      · simp only [if_neg h2, show pv r.f2 r.f3 = false by simpa using h2, Bool.false_and]
        exact ev_some _
    · simp only [if_pos h0, if_neg h1, decide_eq_false (show ¬ ((0 ≤ r.f0 ∧ r.f0 ≤ 99999) ∧ (0 ≤ r.f1 ∧ r.f1 ≤ 99999)) from fun h => h1 h.2), Bool.false_and]
      exact ev_some _
  · simp only [if_neg h0, decide_eq_false (show ¬ ((0 ≤ r.f0 ∧ r.f0 ≤ 99999) ∧ (0 ≤ r.f1 ∧ r.f1 ≤ 99999)) from fun h => h0 h.1), Bool.false_and]
    exact ev_some _
def RF (l : List Rc) (i : Nat) : Prop := ∀ j, i ≤ j → j < l.length → rv (rr l j) = true ∧ (0 < j → (rr l ((j : Int) - 1)).f0 < (rr l j).f0)
theorem RF_end {l : List Rc} {i : Nat} (h : l.length ≤ i) : RF l i := fun j h1 h2 => by omega
theorem RF_step {l : List Rc} {i : Nat} (h : i < l.length) : RF l i ↔ (rv (rr l i) = true ∧ (0 < i → (rr l ((i : Int) - 1)).f0 < (rr l i).f0)) ∧ RF l (i + 1) := by
  constructor
  · intro hv
    exact ⟨hv i (Nat.le_refl _) h, fun j h1 h2 => hv j (by omega) h2⟩
  · rintro ⟨h1, h2⟩ j h3 h4
    by_cases e : j = i
    · subst e; exact h1
    · exact h2 j (by omega) h4
theorem implRecs_loop (l : List Rc) (hl : smallRs l) (a0 a1 : Bool) (a2 a3 a4 : Int) : ∀ (d i : Nat), l.length - i = d → i ≤ l.length → Evs (fun k => impl_BatchValid.l0 k l (l.length : Int) (i : Int) a0 a1 a2 a3 a4 l) (fun b => b = true ↔ RF l i) := by
  intro d
  induction d with
  | zero =>
    intro i hd hi
    refine Evs.succ ?_
    simp only [impl_BatchValid.l0, if_neg (show ¬ (i : Int) < (l.length : Int) by omega)]
    exact Evs.done (by simp; exact RF_end (by omega))
  | succ d ih =>
    intro i hd hi
    have hll := hl.1
    have hn := ih (i + 1) (by omega) (by omega)
    have e1 : wrap64 ((i : Int) + 1) = ((i + 1 : Nat) : Int) := by rw [wrap_id (by omega) (by omega)]; omega
    have e2 : wrap64 ((i : Int) - 1) = (i : Int) - 1 := wrap_id (by omega) (by omega)
    rw [RF_step (show i < l.length by omega)]
    refine Evs.succ ?_
    simp only [impl_BatchValid.l0, if_pos (show (i : Int) < (l.length : Int) by omega), if_pos (show (0 : Int) ≤ i by omega), e1, e2]
    refine Evs.bind (Evs.of (implRec (rr l (i : Int)) (smallRs_at hl i (by omega))) rfl : Evs _ (fun x => x = rv (rr l (i : Int)))) ?_
    rintro _ rfl
    by_cases h1 : rv (rr l (i : Int)) = true
    · simp only [if_pos h1]
      by_cases h0 : (i : Int) > 0
      · simp only [if_pos h0, if_pos (show 0 ≤ (i : Int) - 1 by omega), if_pos (show (i : Int) - 1 < (l.length : Int) by omega)]
        by_cases h2 : (rr l ((i : Int) - 1)).f0 ≥ (rr l (i : Int)).f0
        · simp only [if_pos h2]
          refine Evs.done ?_
          simp only [Bool.false_eq_true, false_iff]
          rintro ⟨⟨_, h3⟩, _⟩
          have := h3 (by omega)
          omega
        · simp only [if_neg h2]
          refine hn.mono fun b hb => ?_
          rw [hb]
          exact ⟨fun h => ⟨⟨h1, fun _ => by omega⟩, h⟩, fun h => h.2⟩
      · simp only [if_neg h0]
        refine hn.mono fun b hb => ?_
        rw [hb]
        exact ⟨fun h => ⟨⟨h1, fun h' => absurd h' (by omega)⟩, h⟩, fun h => h.2⟩
    · simp only [if_neg h1]
      exact Evs.done (by simp only [Bool.false_eq_true, false_iff]; exact fun h => h1 h.1.1)
theorem specRecs_loop (l : List Rc) (hl : smallRs l) : ∀ (d i : Nat), l.length - i = d → i ≤ l.length → Evs (fun k => spec_l5Records.l0 k l (i : Int)) (fun b => b = true ↔ RF l i ∧ 1 ≤ l.length ∧ l.length ≤ 6) := by
  intro d
  induction d with
  | zero =>
    intro i hd hi
    refine Evs.succ ?_
    simp only [spec_l5Records.l0, if_neg (show ¬ (i : Int) < (l.length : Int) by omega), spec_l6In_eq, bsome]
    exact Evs.done (by simp only [decide_eq_true_eq]; exact ⟨fun h => ⟨RF_end (by omega), by omega, by omega⟩, fun h => by have := h.2; omega⟩)
  | succ d ih =>
    intro i hd hi
    have hll := hl.1
    have hn := ih (i + 1) (by omega) (by omega)
    have e1 : wrap64 ((i : Int) + 1) = ((i + 1 : Nat) : Int) := by rw [wrap_id (by omega) (by omega)]; omega
    have e2 : wrap64 ((i : Int) - 1) = (i : Int) - 1 := wrap_id (by omega) (by omega)
    rw [RF_step (show i < l.length by omega)]
    refine Evs.succ ?_
    simp only [spec_l5Records.l0, if_pos (show (i : Int) < (l.length : Int) by omega), if_pos (show (0 : Int) ≤ i by omega), e1, e2]
    refine Evs.bind (Evs.of (specRec (rr l (i : Int)) (smallRs_at hl i (by omega))) rfl : Evs _ (fun x => x = rv (rr l (i : Int)))) ?_
    rintro _ rfl
    by_cases h1 : rv (rr l (i : Int)) = true
    · simp only [if_pos h1]
      by_cases h0 : (i : Int) > 0
      · simp only [if_pos h0, if_pos (show 0 ≤ (i : Int) - 1 by omega), if_pos (show (i : Int) - 1 < (l.length : Int) by omega)]
        by_cases h2 : (rr l ((i : Int) - 1)).f0 ≥ (rr l (i : Int)).f0
        · simp only [if_pos h2]
          refine Evs.done ?_
          simp only [Bool.false_eq_true, false_iff]
          rintro ⟨⟨⟨_, h3⟩, _⟩, _⟩
          have := h3 (by omega)
          omega
        · simp only [if_neg h2]
          refine hn.mono fun b hb => ?_
          rw [hb]
          exact ⟨fun h => ⟨⟨⟨h1, fun _ => by omega⟩, h.1⟩, h.2⟩, fun h => ⟨h.1.2, h.2⟩⟩
      · simp only [if_neg h0]
        refine hn.mono fun b hb => ?_
        rw [hb]
        exact ⟨fun h => ⟨⟨⟨h1, fun h' => absurd h' (by omega)⟩, h.1⟩, h.2⟩, fun h => ⟨h.1.2, h.2⟩⟩
    · simp only [if_neg h1]
      exact Evs.done (by simp only [Bool.false_eq_true, false_iff]; exact fun h => h1 h.1.1.1)
def VB (a1 : Bool) (a2 a3 a4 : Int) (l : List Rc) : Prop :=
  (if a2 = 255 then a3 = 0 ∧ a4 = 0 ∧ a1 = false else (0 ≤ a2 ∧ a2 ≤ 254) ∧ (0 ≤ a3 ∧ a3 ≤ 99) ∧ (0 ≤ a4 ∧ a4 ≤ 9999)) ∧ (1 ≤ l.length ∧ l.length ≤ 6) ∧ (a1 = true → l.length = 1) ∧ RF l 0
theorem implB_j0 (a0 a1 : Bool) (a2 a3 a4 : Int) (l : List Rc) (hl : smallRs l) : Evs (fun k => impl_BatchValid.j0 k a0 a1 a2 a3 a4 l) (fun b => b = true ↔ (1 ≤ l.length ∧ l.length ≤ 6) ∧ (a1 = true → l.length = 1) ∧ RF l 0) := by
  have hr := implRecs_loop l hl a0 a1 a2 a3 a4 l.length 0 (by omega) (by omega)
  refine Evs.succ ?_
  simp only [impl_BatchValid.j0, impl_within_eq, bsome, decide_eq_true_eq]
  by_cases h : 1 ≤ (l.length : Int) ∧ (l.length : Int) ≤ 6
  · simp only [if_pos h]
    cases a1 with
    | true =>
      simp only [if_true]
      refine Evs.succ ?_
      by_cases h1 : l.length = 1
      · simp only [impl_BatchValid.j1, show ((l.length : Int) != 1) = false by rw [h1]; rfl, Bool.false_eq_true, if_false]
        refine hr.mono fun b hb => ?_
        rw [hb]
        exact ⟨fun h2 => ⟨by omega, fun _ => h1, h2⟩, fun h2 => h2.2.2⟩
      · simp only [impl_BatchValid.j1, show ((l.length : Int) != 1) = true by simp; omega, if_true]
        exact Evs.done (by simp only [Bool.false_eq_true, false_iff]; exact fun h2 => h1 (h2.2.1 trivial))
    | false =>
      simp only [Bool.false_eq_true, if_false]
      refine Evs.succ ?_
      simp only [impl_BatchValid.j1, Bool.false_eq_true, if_false]
      refine hr.mono fun b hb => ?_
      rw [hb]
      exact ⟨fun h2 => ⟨by omega, (fun h3 => h3.elim), h2⟩, fun h2 => h2.2.2⟩
  · simp only [if_neg h]
    refine Evs.succ ?_
    simp only [impl_BatchValid.j1, if_true]
    exact Evs.done (by simp only [Bool.false_eq_true, false_iff]; exact fun h2 => h ⟨by have := h2.1.1; omega, by have := h2.1.2; omega⟩)
theorem implB_evs (a0 a1 : Bool) (a2 a3 a4 : Int) (l : List Rc) (hl : smallRs l) : Evs (fun k => impl_BatchValid.f k a0 a1 a2 a3 a4 l) (fun b => b = true ↔ VB a1 a2 a3 a4 l) := by
  have hj := implB_j0 a0 a1 a2 a3 a4 l hl
  unfold impl_BatchValid.f VB
  by_cases h : a2 = 255
  · simp only [if_pos h]
    by_cases h3 : a3 = 0
    · simp only [if_pos h3]
      by_cases h4 : a4 = 0
      · simp only [if_pos h4]
        cases a1 with
        | true =>
          simp only [if_true]
          exact Evs.done (by simp)
        | false =>
          simp only [Bool.false_eq_true, if_false]
          refine hj.mono fun b hb => ?_
          rw [hb]
          exact ⟨fun h2 => ⟨⟨h3, h4, trivial⟩, h2.1, (fun h5 => h5.elim), h2.2.2⟩, fun h2 => ⟨h2.2.1, (fun h5 => by cases h5), h2.2.2.2⟩⟩
      · simp only [if_neg h4]
        exact Evs.done (by simp only [Bool.false_eq_true, false_iff]; exact fun h2 => h4 h2.1.2.1)
    · simp only [if_neg h3]
      exact Evs.done (by simp only [Bool.false_eq_true, false_iff]; exact fun h2 => h3 h2.1.1)
  · simp only [if_neg h, idValid_eqB, impl_within_eq, bsome, decide_eq_true_eq]
    by_cases h2 : 0 ≤ a2 ∧ a2 ≤ 254
    · simp only [if_pos h2]
      by_cases h3 : 0 ≤ a3 ∧ a3 ≤ 99
      · simp only [if_pos h3]
        by_cases h4 : 0 ≤ a4 ∧ a4 ≤ 9999
        · simp only [if_pos h4]
          refine hj.mono fun b hb => ?_
          rw [hb]
          exact ⟨fun h5 => ⟨⟨h2, h3, h4⟩, h5⟩, fun h5 => h5.2⟩
        · simp only [if_neg h4]
          exact Evs.done (by simp only [Bool.false_eq_true, false_iff]; exact fun h5 => h4 h5.1.2.2)
      · simp only [if_neg h3]
        exact Evs.done (by simp only [Bool.false_eq_true, false_iff]; exact fun h5 => h3 h5.1.2.1)
    · simp only [if_neg h2]
      exact Evs.done (by simp only [Bool.false_eq_true, false_iff]; exact fun h5 => h2 h5.1.1)
theorem specB_j0_true (a0 a1 : Bool) (a2 a3 a4 : Int) (l : List Rc) : Evs (fun k => spec_BatchValid.j0 k true a0 a1 a2 a3 a4 l) (fun b => b = false) := by
  refine Evs.succ ?_
  simp only [spec_BatchValid.j0, if_true]
  exact Evs.done rfl
theorem specB_evs (a0 a1 : Bool) (a2 a3 a4 : Int) (l : List Rc) (hl : smallRs l) : Evs (fun k => spec_BatchValid.f k a0 a1 a2 a3 a4 l) (fun b => b = true ↔ VB a1 a2 a3 a4 l) := by
  have hr := specRecs_loop l hl l.length 0 (by omega) (by omega)
  have no : ∀ {P : Prop}, ¬ P → ∀ b : Bool, b = false → (b = true ↔ P) := fun hP b hb => by rw [hb]; simp only [Bool.false_eq_true, false_iff]; exact hP
  unfold spec_BatchValid.f
  unfold spec_l5Records.f
  refine Evs.bind hr ?_
  intro t ht
  by_cases h : t = true
  · obtain ⟨hRF, hl1⟩ := ht.1 h
    simp only [if_pos h, spec_l6In_eq, bsome, decide_eq_true_eq]
    by_cases h2 : 0 ≤ a2 ∧ a2 ≤ 255
    · simp only [if_pos h2]
      by_cases h3 : 0 ≤ a3 ∧ a3 ≤ 99
      · simp only [if_pos h3]
        by_cases h4 : 0 ≤ a4 ∧ a4 ≤ 9999
        · simp only [decide_eq_true h4, Bool.not_true]
          refine Evs.succ ?_
          simp only [spec_BatchValid.j0, Bool.false_eq_true, if_false]
          unfold VB
          by_cases h5 : a2 = 255
          · simp only [if_pos h5]
            by_cases h6 : a3 = 0
            · simp only [if_pos h6]
              by_cases h7 : a4 = 0
              · simp only [if_pos h7]
                refine Evs.done ?_
                cases a1
                · simp; exact ⟨⟨h6, h7⟩, hl1, hRF⟩
                · simp
              · simp only [if_neg h7]
                exact Evs.done (no (fun h8 => h7 h8.1.2.1) _ rfl)
            · simp only [if_neg h6]
              exact Evs.done (no (fun h8 => h6 h8.1.1) _ rfl)
          · simp only [if_neg h5]
            cases a1 with
            | true =>
              simp only [if_true]
              refine Evs.done ?_
              simp only [beq_iff_eq]
              exact ⟨fun h8 => ⟨⟨by omega, h3, h4⟩, hl1, fun _ => by omega, hRF⟩, fun h8 => by have := h8.2.2.1 trivial; omega⟩
            | false =>
              simp only [Bool.false_eq_true, if_false]
              refine Evs.done ?_
              simp only [true_iff]
              exact ⟨⟨by omega, h3, h4⟩, hl1, (fun h8 => h8.elim), hRF⟩
        · simp only [decide_eq_false h4, Bool.not_false]
          refine (specB_j0_true a0 a1 a2 a3 a4 l).mono (no ?_)
          unfold VB
          split
          · rintro ⟨⟨_, h8, _⟩, _⟩
            exact h4 (by omega)
          · exact fun h8 => h4 h8.1.2.2
      · simp only [if_neg h3]
        refine (specB_j0_true a0 a1 a2 a3 a4 l).mono (no ?_)
        unfold VB
        split
        · rintro ⟨⟨h8, _, _⟩, _⟩
          exact h3 (by omega)
        · exact fun h8 => h3 h8.1.2.1
    · simp only [if_neg h2]
      refine (specB_j0_true a0 a1 a2 a3 a4 l).mono (no ?_)
      unfold VB
      split
      · rename_i h8
        exact fun _ => h2 (by omega)
      · exact fun h8 => h2 (by have := h8.1.1; omega)
  · simp only [if_neg h]
    refine (specB_j0_true a0 a1 a2 a3 a4 l).mono (no ?_)
    exact fun h8 => h (ht.2 ⟨h8.2.2.2, h8.2.1⟩)
open Classical in
noncomputable def vb (a1 : Bool) (a2 a3 a4 : Int) (l : List Rc) : Bool := decide (VB a1 a2 a3 a4 l)
theorem vb_iff (a1 : Bool) (a2 a3 a4 : Int) (l : List Rc) : vb a1 a2 a3 a4 l = true ↔ VB a1 a2 a3 a4 l := by unfold vb; simp
theorem implB (a0 a1 : Bool) (a2 a3 a4 : Int) (l : List Rc) (hl : smallRs l) : Ev (fun k => impl_BatchValid.f k a0 a1 a2 a3 a4 l) (vb a1 a2 a3 a4 l) := by
  obtain ⟨b, hb, h⟩ := implB_evs a0 a1 a2 a3 a4 l hl
  rw [show vb a1 a2 a3 a4 l = b by rw [Bool.eq_iff_iff, vb_iff, h]]
  exact hb
theorem specB (a0 a1 : Bool) (a2 a3 a4 : Int) (l : List Rc) (hl : smallRs l) : Ev (fun k => spec_BatchValid.f k a0 a1 a2 a3 a4 l) (vb a1 a2 a3 a4 l) := by
  obtain ⟨b, hb, h⟩ := specB_evs a0 a1 a2 a3 a4 l hl
  rw [show vb a1 a2 a3 a4 l = b by rw [Bool.eq_iff_iff, vb_iff, h]]
  exact hb
end Go.Proofs.Yticpnjhkdfdkkaa.Q
