/- FnTermsEnd, part 4 of 4: merged by wip/tools/pack.py out of the texts that the row reaches; the pure statement is the session's own. -/
import Derived.RowKit
import Derived.Test.YtamncgpajkoiaaaRows
import Derived.WalkKit
import Derived.ProofKit
import Derived.OpenShut
import Derived.ShutString
import Derived.ChangeOld
import Derived.Below
import Derived.SizedLaws
import Derived.Test.YtamncgpajkoiaaaFnTermsEndK2
namespace Go.Proofs.Ytamncgpajkoiaaa.T
open Go.RowKit Go.Proofs.YtamncgpajkoiaaaW.PrintWords Go.Proofs.YtamncgpajkoiaaaW.PrintLast Go.Proofs.YtamncgpajkoiaaaW.PrintMore

set_option linter.unusedVariables false
set_option linter.unusedSimpArgs false
def spec_l92End.f (k : Nat) (s0_0 : List Int) (s0_1 : Int) (l1 : List (S37)) : Option (Int × Int) := if (l1.length : Int) = 0 then ((spec_l6Rd_pick.f k s0_0 s0_1 20).bind fun bt422 => (some (bt422.1, bt422.2))) else (if 0 ≤ (wrap64 ((l1.length : Int) - 1)) then (if (wrap64 ((l1.length : Int) - 1)) < (l1.length : Int) then ((spec_l6Rd_pick.f k s0_0 s0_1 10).bind fun bt425 => ((spec_l6Rd_pick.f k s0_0 bt425.2 20).bind fun bt427 => (some (wrap64 ((wrap64 ((wrap64 (((rd_T37 l1 (wrap64 ((l1.length : Int) - 1))).f1) + 1)) + bt425.1)) - (wrap64 ((wrap64 (Int.tdiv bt427.1 19)) * 9))), bt427.2)))) else (none)) else (none))
theorem spec_l92End.mono : ∀ a0 a1 a2 k, LeO (spec_l92End.f k a0 a1 a2) (spec_l92End.f (k + 1) a0 a1 a2) := by
  intro a0 a1 a2 k
  unfold spec_l92End.f
  repeat' first
      | (with_reducible exact spec_l6Rd_pick.mono _ _ _ _)
      | (with_reducible exact LeO.refl _)
      | (with_reducible exact LeO.none _)
      | (with_reducible refine LeO.ite ?_ ?_)
      | (with_reducible refine LeO.bind ?_ (fun _ => ?_))
      | exact spec_l6Rd_pick.mono _ _ _ _
      | exact LeO.none _
      | refine LeO.ite ?_ ?_
      | refine LeO.bind ?_ (fun _ => ?_)
def spec_l92End.T3 : Bool × List (List Nat × List Nat) := (true, [([], []), ([], []), ([1], [1]), ([2], [2]), ([0, 3], [0, 3]), ([4], [4]), ([5], [5]), ([6], [6]), ([], []), ([8], [8]), ([7, 9], [7, 9]), ([], []), ([11, 9], [11]), ([12], [12]), ([13], [13]), ([10, 14], [10, 14]), ([15, 12, 0, 1, 2, 3, 4, 5, 6, 7, 8, 9, 10, 11, 12, 13, 14, 15], [15])])
def spec_l92End.B3 : List Nat := [0, 0, 2, 6, 15, 31, 63, 127, 0, 256, 1023, 0, 2816, 6912, 15104, 32767, 65535]
theorem spec_l92End.tab3 : rtab .any (opsOf Try.f56 3) = spec_l92End.T3 := by kernel_rfl
theorem spec_l92End.bits3 : waitsOk spec_l92End.T3.2 spec_l92End.B3 = true := by kernel_rfl
set_option maxHeartbeats 8000000 in
set_option maxRecDepth 100000 in
theorem spec_l92End.calls (k : Nat) (g : Nat) (s0_0 : List Int) (s0_1 : Int) (A1 : Option Addr) (c1 : Nat) (l1 : List (S37)) (r1 : Int) (r2 : Int) (w0 w : World) (hI : IsS72 w0 w g s0_0 s0_1) (hB : Below w0.heap.size w0 w) (hr1 : ∀ W_, KeepBut w W_ g none → Kd.C k37 W_ A1 l1.length l1) (hc1 : l1.length ≤ c1) (h : spec_l92End.f k s0_0 s0_1 l1 = some (r1, r2)) :
    Calls Try.prog 56 #[.pointer (some ⟨g, 0, none⟩), .slice A1 l1.length c1] w fun e w' => e = .returned (.int .i64 r1) ∧ IsS72 w0 w' g s0_0 r2 ∧ Below w0.heap.size w0 w' ∧ KeepBut w w' g none := by
  have HR1 := Aside0.mk hr1
  have HC1 := Aside0.mk hc1
  clear hr1 hc1
  have HI0 := Aside0.mk hI
  have HK := Aside0.mk (KeepBut.refl w g none)
  have HL := Aside0.mk hB.size
  clear hI
  have HW0 := Aside0.mk hB.size
  have HB := Aside0.mk hB
  clear hB
  have H : (if (l1.length : Int) = 0 then ((spec_l6Rd_pick.f k s0_0 s0_1 20).bind fun bt422 => (some (bt422.1, bt422.2))) else (if 0 ≤ (wrap64 ((l1.length : Int) - 1)) then (if (wrap64 ((l1.length : Int) - 1)) < (l1.length : Int) then ((spec_l6Rd_pick.f k s0_0 s0_1 10).bind fun bt425 => ((spec_l6Rd_pick.f k s0_0 bt425.2 20).bind fun bt427 => (some (wrap64 ((wrap64 ((wrap64 (((rd_T37 l1 (wrap64 ((l1.length : Int) - 1))).f1) + 1)) + bt425.1)) - (wrap64 ((wrap64 (Int.tdiv bt427.1 19)) * 9))), bt427.2)))) else (none)) else (none))) = some (r1, r2) := h
  clear h
  by_cases c3 : (l1.length : Int) = 0
  · rw [if_pos c3] at H
    have c3b0 : ((l1.length : Int) == 0) = true := beq_iff_eq.mpr c3
    have c3b1 : ((l1.length : Int) != 0) = false := bne_eq_false_iff_eq.mpr c3
    clear c3
    replace H := Option.bind_eq_some_iff.mp H
    obtain ⟨⟨t422, t423⟩, A40, H⟩ := H
    replace H : (some (t422, t423)) = some (r1, r2) := H
    have A4 := Aside0.mk A40
    clear A40
    simp only [Option.some.injEq, Prod.mk.injEq] at H
    obtain ⟨rfl, rfl⟩ := H
    go_enter Try.func56, Try.ntmps56
    go_wp2_with (first | ((with_reducible refine gate_callee (f := 46) rfl ?_); refine goesL_ (some 9) rfl rfl Try.func46 (by kernel_rfl) rfl #[.pointer (some ⟨g, 0, none⟩), .int .i64 20] rfl (by (try simp only [List.map_toArray, List.map_cons, List.map_nil]); first | done | rfl | (simp only [List.length_drop, List.length_take]; rfl)) ?_; (with_reducible refine (spec_l6Rd_pick.calls k g s0_0 s0_1 20 t422 t423 w0 _ ?side1 ?side2 A4.out).mono ?_); (case side1 => repeat (first | (with_reducible first | exact HI0.out | apply IsS72.alloc | apply IsS72.drewN | apply IsS72.drew | apply IsS72.set_1) | exact HI0.out)); (case side2 => repeat (first | (with_reducible first | exact HB.out | apply below_alloc | apply pw_below_drewN | apply below_drew1 | refine below_set ?_ (IsS72.ge HI0.out)) | exact HB.out)); rintro e w5 ⟨rfl, hi, hb, hk⟩; refine ⟨_, rfl, ?_⟩; have n0_ := Aside0.mk (KeepBut.trans (by repeat (first | (with_reducible first | exact HK.out | apply KeepBut.set_ | apply keep_drewN | apply keep_drew | apply keep_alloc) | exact HK.out)) hk (.inl rfl)); have n1_ := Aside0.mk (hb); have n2_ := Aside0.mk (hi); clear HK; clear HB; clear HI0; have HK := n0_; have HB := n1_; have HI0 := n2_; clear n0_ n1_ n2_; (try clear hb); (try clear hb2); (try clear hk); (try clear hi)))
    go_ret
    exact ⟨by first | rfl | (simp [errW_none, errW_some] <;> rfl) | (simp [*, errW_none, errW_some] <;> rfl), by repeat (first | (with_reducible first | exact HI0.out | apply IsS72.alloc | apply IsS72.drewN | apply IsS72.drew | apply IsS72.set_1) | exact HI0.out), by repeat (first | (with_reducible first | exact HB.out | apply below_alloc | apply pw_below_drewN | apply below_drew1 | refine below_set ?_ (IsS72.ge HI0.out)) | exact HB.out), by repeat (first | (with_reducible first | exact HK.out | apply KeepBut.set_ | apply keep_drewN | apply keep_drew | apply keep_alloc) | exact HK.out)⟩
  · rw [if_neg c3] at H
    have c3b0 : ((l1.length : Int) == 0) = false := beq_eq_false_iff_ne.mpr c3
    have c3b1 : ((l1.length : Int) != 0) = true := bne_iff_ne.mpr c3
    have c3b2 : ¬ (l1 = []) := fun h_ => c3 (by rw [h_]; rfl)
    obtain ⟨ji6, hji6⟩ : ∃ j_ : Int, (wrap64 ((l1.length : Int) - 1)) = j_ := ⟨_, rfl⟩
    replace H : (if 0 ≤ (ji6) then (if (ji6) < (l1.length : Int) then ((spec_l6Rd_pick.f k s0_0 s0_1 10).bind fun bt425 => ((spec_l6Rd_pick.f k s0_0 bt425.2 20).bind fun bt427 => (some (wrap64 ((wrap64 ((wrap64 (((rd_T37 l1 (ji6)).f1) + 1)) + bt425.1)) - (wrap64 ((wrap64 (Int.tdiv bt427.1 19)) * 9))), bt427.2)))) else (none)) else (none)) = some (r1, r2) := by first | (rw [hji6] at H; exact H) | (simp only [hji6] at H ⊢; exact H)
    have hji6w : (IntKind.i64.wrap ((l1.length : Int) - 1)) = ji6 := (i64_w _).trans hji6
    by_cases c7 : 0 ≤ (ji6)
    · rw [if_pos c7] at H
      have c7b0 : decide (0 ≤ (ji6)) = true := decide_eq_true c7
      clear c7
      by_cases c8 : (ji6) < (l1.length : Int)
      · rw [if_pos c8] at H
        have c8b0 : decide ((ji6) < (l1.length : Int)) = true := decide_eq_true c8
        clear c8
        replace H := Option.bind_eq_some_iff.mp H
        obtain ⟨⟨t425, t426⟩, A90, H⟩ := H
        replace H : ((spec_l6Rd_pick.f k s0_0 t426 20).bind fun bt427 => (some (wrap64 ((wrap64 ((wrap64 (((rd_T37 l1 (ji6)).f1) + 1)) + t425)) - (wrap64 ((wrap64 (Int.tdiv bt427.1 19)) * 9))), bt427.2))) = some (r1, r2) := H
        have A9 := Aside0.mk A90
        clear A90
        replace H := Option.bind_eq_some_iff.mp H
        obtain ⟨⟨t427, t428⟩, A100, H⟩ := H
        replace H : (some (wrap64 ((wrap64 ((wrap64 (((rd_T37 l1 (ji6)).f1) + 1)) + t425)) - (wrap64 ((wrap64 (Int.tdiv t427 19)) * 9))), t428)) = some (r1, r2) := H
        have A10 := Aside0.mk A100
        clear A100
        simp only [Option.some.injEq, Prod.mk.injEq] at H
        obtain ⟨rfl, rfl⟩ := H
        go_enter Try.func56, Try.ntmps56
        try go_wp2
        have n0_ := Aside0.mk (IsS72.drew HI0.out)
        have n1_ := Aside0.mk (keep_drew HK.out)
        have n2_ := Aside0.mk (below_drew1 HB.out)
        clear HI0
        clear HK
        clear HB
        have HI0 := n0_
        have HK := n1_
        have HB := n2_
        clear n0_ n1_ n2_
        have p424 : 0 ≤ ((ji6) : Int) := of_decide_eq_true (by first | (with_reducible assumption) | assumption)
        have q424 : (ji6) < (l1.length : Int) := of_decide_eq_true (by first | (with_reducible assumption) | assumption)
        obtain ⟨ad424, e424, hx424_0, hx424_1⟩ := at_T37 (Kd.C_foot_now HR1.out HK.out) (ji6) p424 q424
        have hw424_1 := hx424_1
        have hw424_0 := hx424_0
        cases e424
        have hne424_1 := (show (⟨(ad424.add (((ji6)).toNat * 2)).block, (ad424.add (((ji6)).toNat * 2)).off + 1, none⟩ : Addr).block ≠ g from by first | (rw [add_block]; exact Kd.foot_ne HR1.out (by omega) (by decide)) | (show (Addr.add _ _).block ≠ _; rw [add_block]; exact Kd.foot_ne HR1.out (by omega) (by decide)) | exact Kd.foot_ne HR1.out (by omega) (by decide) | (dsimp only; exact Kd.foot_ne HR1.out (by omega) (by decide)))
        have hlt424_1 := (Kd.foot_lt HR1.out (by omega) (by decide))
        have hne424_0 := (show ((ad424.add (((ji6)).toNat * 2)) : Addr).block ≠ g from by first | (rw [add_block]; exact Kd.foot_ne HR1.out (by omega) (by decide)) | (show (Addr.add _ _).block ≠ _; rw [add_block]; exact Kd.foot_ne HR1.out (by omega) (by decide)) | exact Kd.foot_ne HR1.out (by omega) (by decide) | (dsimp only; exact Kd.foot_ne HR1.out (by omega) (by decide)))
        have hlt424_0 := (Kd.foot_lt HR1.out (by omega) (by decide))
        replace p424 := eq_true p424
        replace q424 := eq_true q424
        refine start_ (n := 17) (S := fun w' => w'.cell? (ad424.add (((ji6)).toNat * 2)) = some (.int .i64 ((rd_T37 l1 (ji6)).f0)) ∧ w'.cell? ⟨(ad424.add (((ji6)).toNat * 2)).block, (ad424.add (((ji6)).toNat * 2)).off + 1, none⟩ = some (.int .i64 ((rd_T37 l1 (ji6)).f1))) (ds := []) #[false, false, false, false, false, false, false, false, false, false, false, false, false, false, false, false, false] (by kernel_rfl) rfl rfl ⟨hx424_0, hx424_1⟩ (fun hHeld => ?_); refine with_tabW spec_l92End.tab3 spec_l92End.bits3 (fun HT_ HW_ => ?_)
        generalize w.drew = w11 at HI0 HK HB hx424_0 hx424_1 hHeld ⊢
        refine pure_ (i := 0) (N := some 10) (v := ?_) (a' := ?_) #[true, false, false, false, false, false, false, false, false, false, false, false, false, false, false, false, false] rfl rfl (any_of HT_.out (by kernel_rfl)) (fun _ _ _ h => h) (Or.inl ⟨by rfl, ?_⟩) ?_ ?_
        rotate_left
        · intro w'
          go_simp
          with_reducible rfl
        rotate_left
        · simp only [Act.put, List.setIfInBounds_toArray, List.set_cons_zero, List.set_cons_succ, i64_w, i32_w]
          rfl
        refine pure_ (i := 1) (N := some 11) (v := ?_) (a' := ?_) #[true, true, false, false, false, false, false, false, false, false, false, false, false, false, false, false, false] rfl rfl (any_of HT_.out (by kernel_rfl)) (fun _ _ _ h => h) (Or.inl ⟨by rfl, ?_⟩) ?_ ?_
        rotate_left
        · intro w'
          go_simp
          with_reducible rfl
        rotate_left
        · simp only [Act.put, List.setIfInBounds_toArray, List.set_cons_zero, List.set_cons_succ, i64_w, i32_w]
          rfl
        refine pure_ (i := 2) (N := some 12) (v := ?_) (a' := ?_) #[true, true, true, false, false, false, false, false, false, false, false, false, false, false, false, false, false] rfl rfl (any_of HT_.out (by kernel_rfl)) (fun _ _ _ h => h) (Or.inl ⟨by rfl, ?_⟩) ?_ ?_
        rotate_left
        · intro w'
          go_simp
          with_reducible rfl
        rotate_left
        · simp only [Act.put, List.setIfInBounds_toArray, List.set_cons_zero, List.set_cons_succ, i64_w, i32_w]
          rfl
        refine pure_ (i := 3) (N := some 13) (v := ?_) (a' := ?_) #[true, true, true, true, false, false, false, false, false, false, false, false, false, false, false, false, false] rfl rfl (any_of HT_.out (by kernel_rfl)) (fun _ _ _ h => h) (Or.inl ⟨by rfl, ?_⟩) ?_ ?_
        rotate_left
        · intro w'
          go_simp
          with_reducible rfl
        rotate_left
        · simp only [Act.put, List.setIfInBounds_toArray, List.set_cons_zero, List.set_cons_succ, i64_w, i32_w]
          rfl
        refine pure_ (i := 4) (N := some 14) (v := ?_) (a' := ?_) #[true, true, true, true, true, false, false, false, false, false, false, false, false, false, false, false, false] rfl rfl (any_of HT_.out (by kernel_rfl)) (fun _ _ _ h => h) (Or.inl ⟨by rfl, ?_⟩) ?_ ?_
        rotate_left
        · intro w'
          go_simp
          with_reducible rfl
        rotate_left
        · simp only [Act.put, List.setIfInBounds_toArray, List.set_cons_zero, List.set_cons_succ, i64_w, i32_w]
          rfl
        refine pure_ (i := 5) (N := some 15) (v := ?_) (a' := ?_) #[true, true, true, true, true, true, false, false, false, false, false, false, false, false, false, false, false] rfl rfl (any_of HT_.out (by kernel_rfl)) (fun _ _ _ h => h) (Or.inl ⟨by rfl, ?_⟩) ?_ ?_
        rotate_left
        · intro w'
          go_simp
          with_reducible rfl
        rotate_left
        · simp only [Act.put, List.setIfInBounds_toArray, List.set_cons_zero, List.set_cons_succ, i64_w, i32_w]
          rfl
        refine pure_ (i := 8) (N := some 18) (v := ?_) (a' := ?_) #[true, true, true, true, true, true, false, false, true, false, false, false, false, false, false, false, false] rfl rfl (any_of HT_.out (by kernel_rfl)) (fun _ _ _ h => h) (Or.inl ⟨by rfl, ?_⟩) ?_ ?_
        rotate_left
        · intro w'
          go_simp
          with_reducible rfl
        rotate_left
        · simp only [Act.put, List.setIfInBounds_toArray, List.set_cons_zero, List.set_cons_succ, i64_w, i32_w]
          rfl
        refine pure_ (i := 11) (N := some 21) (v := ?_) (a' := ?_) #[true, true, true, true, true, true, false, false, true, false, false, true, false, false, false, false, false] rfl rfl (any_of HT_.out (by kernel_rfl)) (fun _ _ _ h => h) (Or.inl ⟨by rfl, ?_⟩) ?_ ?_
        rotate_left
        · intro w'
          go_simp
          with_reducible rfl
        rotate_left
        · simp only [Act.put, List.setIfInBounds_toArray, List.set_cons_zero, List.set_cons_succ, i64_w, i32_w]
          rfl
        refine take_ (i := 6) (N := some 16) (v := ?_) (a' := ?_) #[true, true, true, true, true, true, true, false, true, false, false, true, false, false, false, false, false] rfl rfl (take_ofW HT_.out HW_.out (by kernel_rfl)) (fun _ _ _ h => h) (Or.inl ⟨by rfl, ?_⟩) hHeld ?_ ?_
        rotate_left
        · rintro w' ⟨s0, s1⟩
          go_simp
          with_reducible rfl
        rotate_left
        · simp only [Act.put, List.setIfInBounds_toArray, List.set_cons_zero, List.set_cons_succ, i64_w, i32_w]
          rfl
        refine pure_ (i := 7) (N := some 17) (v := ?_) (a' := ?_) #[true, true, true, true, true, true, true, true, true, false, false, true, false, false, false, false, false] rfl rfl (any_of HT_.out (by kernel_rfl)) (fun _ _ _ h => h) (Or.inl ⟨by rfl, ?_⟩) ?_ ?_
        rotate_left
        · intro w'
          go_simp
          with_reducible rfl
        rotate_left
        · simp only [Act.put, List.setIfInBounds_toArray, List.set_cons_zero, List.set_cons_succ, i64_w, i32_w]
          rfl
        refine one_ (i := 9) (N := some 19) #[true, true, true, true, true, true, true, true, true, true, false, true, false, false, false, false, false] rfl rfl (one_of HT_.out (by kernel_rfl)) (by decide) (fun K hK => ?_)
        refine goes_ Try.func46 (by kernel_rfl) rfl #[.pointer (some ⟨g, 0, none⟩), .int .i64 10] (by rfl) rfl rfl (by (try simp only [List.map_toArray, List.map_cons, List.map_nil]); first | done | rfl | (simp only [List.length_drop, List.length_take]; rfl)) ?_
        with_reducible refine (spec_l6Rd_pick.calls k g s0_0 s0_1 10 t425 t426 w0 _ ?side1 ?side2 A9.out).mono ?_
        (case side1 => repeat (first | (with_reducible first | exact HI0.out | apply IsS72.alloc | apply IsS72.drewN | apply IsS72.drew | apply IsS72.set_1) | exact HI0.out))
        (case side2 => repeat (first | (with_reducible first | exact HB.out | apply below_alloc | apply pw_below_drewN | apply below_drew1 | refine below_set ?_ (IsS72.ge HI0.out)) | exact HB.out))
        rintro e w12 ⟨rfl, hi, hb, hk⟩
        have HS0_ := keep_cell hk (hHeld.1) (by first | (rw [add_block]; exact hne424_0) | (show (Addr.add _ _).block ≠ _; rw [add_block]; exact hne424_0) | exact hne424_0)
        have HS1_ := keep_cell hk (hHeld.2) (by first | (rw [add_block]; exact hne424_1) | (show (Addr.add _ _).block ≠ _; rw [add_block]; exact hne424_1) | exact hne424_1)
        refine ⟨_, rfl, ?_⟩
        have n0_ := Aside0.mk (KeepBut.trans (by repeat (first | (with_reducible first | exact HK.out | apply KeepBut.set_ | apply keep_drewN | apply keep_drew | apply keep_alloc) | exact HK.out)) hk (.inl rfl))
        have n1_ := Aside0.mk (hb)
        have n2_ := Aside0.mk (hi)
        clear HK
        clear HB
        clear HI0
        have HK := n0_
        have HB := n1_
        have HI0 := n2_
        clear n0_ n1_ n2_
        (try clear hb)
        (try clear hb2)
        (try clear hk)
        (try clear hi)
        refine hK.out _ _ ⟨HS0_, HS1_⟩ (fun hHeld => ?_)
        clear hK K
        refine norm_ (a' := ?_) ?_ ?_
        rotate_left
        · show Act.put _ (some 19) _ = _
          simp only [Act.put, List.setIfInBounds_toArray, List.set_cons_zero, List.set_cons_succ, i64_w, i32_w]
          rfl
        refine pure_ (i := 10) (N := some 20) (v := ?_) (a' := ?_) #[true, true, true, true, true, true, true, true, true, true, true, true, false, false, false, false, false] rfl rfl (any_of HT_.out (by kernel_rfl)) (fun _ _ _ h => h) (Or.inl ⟨by rfl, ?_⟩) ?_ ?_
        rotate_left
        · intro w'
          go_simp
          with_reducible rfl
        rotate_left
        · simp only [Act.put, List.setIfInBounds_toArray, List.set_cons_zero, List.set_cons_succ, i64_w, i32_w]
          rfl
        refine one_ (i := 12) (N := some 22) #[true, true, true, true, true, true, true, true, true, true, true, true, true, false, false, false, false] rfl rfl (one_of HT_.out (by kernel_rfl)) (by decide) (fun K hK => ?_)
        refine goes_ Try.func46 (by kernel_rfl) rfl #[.pointer (some ⟨g, 0, none⟩), .int .i64 20] (by rfl) rfl rfl (by (try simp only [List.map_toArray, List.map_cons, List.map_nil]); first | done | rfl | (simp only [List.length_drop, List.length_take]; rfl)) ?_
        with_reducible refine (spec_l6Rd_pick.calls k g s0_0 t426 20 t427 t428 w0 _ ?side1 ?side2 A10.out).mono ?_
        (case side1 => repeat (first | (with_reducible first | exact HI0.out | apply IsS72.alloc | apply IsS72.drewN | apply IsS72.drew | apply IsS72.set_1) | exact HI0.out))
        (case side2 => repeat (first | (with_reducible first | exact HB.out | apply below_alloc | apply pw_below_drewN | apply below_drew1 | refine below_set ?_ (IsS72.ge HI0.out)) | exact HB.out))
        rintro e w13 ⟨rfl, hi, hb, hk⟩
        have HS0_ := keep_cell hk (hHeld.1) (by first | (rw [add_block]; exact hne424_0) | (show (Addr.add _ _).block ≠ _; rw [add_block]; exact hne424_0) | exact hne424_0)
        have HS1_ := keep_cell hk (hHeld.2) (by first | (rw [add_block]; exact hne424_1) | (show (Addr.add _ _).block ≠ _; rw [add_block]; exact hne424_1) | exact hne424_1)
        refine ⟨_, rfl, ?_⟩
        have n0_ := Aside0.mk (KeepBut.trans (by repeat (first | (with_reducible first | exact HK.out | apply KeepBut.set_ | apply keep_drewN | apply keep_drew | apply keep_alloc) | exact HK.out)) hk (.inl rfl))
        have n1_ := Aside0.mk (hb)
        have n2_ := Aside0.mk (hi)
        clear HK
        clear HB
        clear HI0
        have HK := n0_
        have HB := n1_
        have HI0 := n2_
        clear n0_ n1_ n2_
        (try clear hb)
        (try clear hb2)
        (try clear hk)
        (try clear hi)
        refine hK.out _ _ ⟨HS0_, HS1_⟩ (fun hHeld => ?_)
        clear hK K
        refine norm_ (a' := ?_) ?_ ?_
        rotate_left
        · show Act.put _ (some 22) _ = _
          simp only [Act.put, List.setIfInBounds_toArray, List.set_cons_zero, List.set_cons_succ, i64_w, i32_w]
          rfl
        refine pure_ (i := 13) (N := some 23) (v := ?_) (a' := ?_) #[true, true, true, true, true, true, true, true, true, true, true, true, true, true, false, false, false] rfl rfl (any_of HT_.out (by kernel_rfl)) (fun _ _ _ h => h) (Or.inl ⟨by rfl, ?_⟩) ?_ ?_
        rotate_left
        · intro w'
          go_simp
          with_reducible rfl
        rotate_left
        · simp only [Act.put, List.setIfInBounds_toArray, List.set_cons_zero, List.set_cons_succ, i64_w, i32_w]
          rfl
        refine pure_ (i := 14) (N := some 24) (v := ?_) (a' := ?_) #[true, true, true, true, true, true, true, true, true, true, true, true, true, true, true, false, false] rfl rfl (any_of HT_.out (by kernel_rfl)) (fun _ _ _ h => h) (Or.inl ⟨by rfl, ?_⟩) ?_ ?_
        rotate_left
        · intro w'
          go_simp
          with_reducible rfl
        rotate_left
        · simp only [Act.put, List.setIfInBounds_toArray, List.set_cons_zero, List.set_cons_succ, i64_w, i32_w]
          rfl
        refine pure_ (i := 15) (N := some 25) (v := ?_) (a' := ?_) #[true, true, true, true, true, true, true, true, true, true, true, true, true, true, true, true, false] rfl rfl (any_of HT_.out (by kernel_rfl)) (fun _ _ _ h => h) (Or.inl ⟨by rfl, ?_⟩) ?_ ?_
        rotate_left
        · intro w'
          go_simp
          with_reducible rfl
        rotate_left
        · simp only [Act.put, List.setIfInBounds_toArray, List.set_cons_zero, List.set_cons_succ, i64_w, i32_w]
          rfl
        refine pure_ (i := 16) (N := some 4) (v := ?_) (a' := ?_) #[true, true, true, true, true, true, true, true, true, true, true, true, true, true, true, true, true] rfl rfl (any_of HT_.out (by kernel_rfl)) (fun _ _ _ h => h) (Or.inl ⟨by rfl, ?_⟩) ?_ ?_
        rotate_left
        · intro w'
          go_simp
          with_reducible rfl
        rotate_left
        · simp only [Act.put, List.setIfInBounds_toArray, List.set_cons_zero, List.set_cons_succ, i64_w, i32_w]
          rfl
        refine done_ (done_of HT_.out (by kernel_rfl)) ?_
        try go_wp2
        go_ret
        exact ⟨by first | rfl | (simp [errW_none, errW_some] <;> rfl) | (simp only [← hji6]; first | rfl | (simp [errW_none, errW_some] <;> rfl)) | (simp [*, errW_none, errW_some] <;> rfl), by repeat (first | (with_reducible first | exact HI0.out | apply IsS72.alloc | apply IsS72.drewN | apply IsS72.drew | apply IsS72.set_1) | exact HI0.out), by repeat (first | (with_reducible first | exact HB.out | apply below_alloc | apply pw_below_drewN | apply below_drew1 | refine below_set ?_ (IsS72.ge HI0.out)) | exact HB.out), by repeat (first | (with_reducible first | exact HK.out | apply KeepBut.set_ | apply keep_drewN | apply keep_drew | apply keep_alloc) | exact HK.out)⟩
      · rw [if_neg c8] at H
        exact absurd H (by simp)
    · rw [if_neg c7] at H
      exact absurd H (by simp)
def spec_DrawTermsEnd.j0 : Nat → List (S37) → Int → Bool → List Int → Int → Option ((List (S37)) × Int × Int)
  | 0, _, _, _, _, _ => none
  | k + 1, x6, x7, x22, x432000, x432001 => if x22 = true then ((spec_l6Rd_pick.f k x432000 x432001 (x6.length : Int)).bind fun bt440 => (if 0 ≤ bt440.1 then (if bt440.1 < (x6.length : Int) then (some (x6, (rd_T37 x6 bt440.1).f0, x7)) else (none)) else (none))) else ((spec_l6Rd_pick.f k x432000 x432001 10).bind fun bt443 => (some (x6, bt443.1, x7)))
def spec_DrawTermsEnd.f (k : Nat) (l0 : List Int) : Option ((List (S37)) × Int × Int) := (spec_l6Open.f l0).bind fun bt429 => ((spec_l92Terms.f k bt429.1 bt429.2).bind fun bt432 => ((spec_l92End.f k bt429.1 bt432.2 bt432.1).bind fun bt436 => (if (bt432.1.length : Int) > 0 then ((spec_l6Rd_pick.f k bt429.1 bt436.2 5).bind fun bt438 => (spec_DrawTermsEnd.j0 k bt432.1 bt436.1 (decide (bt438.1 > 0)) bt429.1 bt438.2)) else (spec_DrawTermsEnd.j0 k bt432.1 bt436.1 false bt429.1 bt436.2))))
theorem spec_DrawTermsEnd.mono_l : ∀ k, (∀ y0 y1 y2 y3 y4, LeO (spec_DrawTermsEnd.j0 k y0 y1 y2 y3 y4) (spec_DrawTermsEnd.j0 (k + 1) y0 y1 y2 y3 y4))
  | 0 => fun _ _ _ _ _ r h => by simp [spec_DrawTermsEnd.j0] at h
  | k + 1 => by
    have ih0 := spec_DrawTermsEnd.mono_l k
    · intro y0 y1 y2 y3 y4
      unfold spec_DrawTermsEnd.j0
      repeat' first
      | (with_reducible exact ih0 _ _ _ _ _)
      | (with_reducible exact spec_l6Rd_pick.mono _ _ _ _)
      | (with_reducible exact spec_l92End.mono _ _ _ _)
      | (with_reducible exact spec_l92Terms.mono _ _ _)
      | (with_reducible exact LeO.refl _)
      | (with_reducible exact LeO.none _)
      | (with_reducible refine LeO.ite ?_ ?_)
      | (with_reducible refine LeO.bind ?_ (fun _ => ?_))
      | exact ih0 _ _ _ _ _
      | exact spec_l6Rd_pick.mono _ _ _ _
      | exact spec_l92End.mono _ _ _ _
      | exact spec_l92Terms.mono _ _ _
      | exact LeO.none _
      | refine LeO.ite ?_ ?_
      | refine LeO.bind ?_ (fun _ => ?_)
theorem spec_DrawTermsEnd.mono : ∀ a0 k, LeO (spec_DrawTermsEnd.f k a0) (spec_DrawTermsEnd.f (k + 1) a0) := by
  intro a0 k
  have ih0 := spec_DrawTermsEnd.mono_l k
  unfold spec_DrawTermsEnd.f
  repeat' first
      | (with_reducible exact ih0 _ _ _ _ _)
      | (with_reducible exact spec_l6Rd_pick.mono _ _ _ _)
      | (with_reducible exact spec_l92End.mono _ _ _ _)
      | (with_reducible exact spec_l92Terms.mono _ _ _)
      | (with_reducible exact LeO.refl _)
      | (with_reducible exact LeO.none _)
      | (with_reducible refine LeO.ite ?_ ?_)
      | (with_reducible refine LeO.bind ?_ (fun _ => ?_))
      | exact ih0 _ _ _ _ _
      | exact spec_l6Rd_pick.mono _ _ _ _
      | exact spec_l92End.mono _ _ _ _
      | exact spec_l92Terms.mono _ _ _
      | exact LeO.none _
      | refine LeO.ite ?_ ?_
      | refine LeO.bind ?_ (fun _ => ?_)
def spec_DrawTermsEnd.T5 : Bool × List (List Nat × List Nat) := (true, [([], []), ([], []), ([], []), ([], []), ([3], [3]), ([2, 4], [2, 4]), ([1, 5], [1, 5]), ([6], [6]), ([7], [7]), ([], []), ([0, 5, 0], [0]), ([8, 10, 0, 1, 2, 3, 4, 5, 6, 7, 8, 10], [8]), ([9, 11, 0, 1, 2, 3, 4, 5, 6, 7, 8, 9, 10, 11], [9])])
def spec_DrawTermsEnd.B5 : List Nat := [0, 0, 0, 0, 8, 28, 62, 126, 254, 0, 61, 1535, 4095]
theorem spec_DrawTermsEnd.tab5 : rtab .any (opsOf Try.f37 5) = spec_DrawTermsEnd.T5 := by kernel_rfl
theorem spec_DrawTermsEnd.bits5 : waitsOk spec_DrawTermsEnd.T5.2 spec_DrawTermsEnd.B5 = true := by kernel_rfl
set_option maxHeartbeats 8000000 in
set_option maxRecDepth 100000 in
theorem spec_DrawTermsEnd.calls (k : Nat) (A0 : Option Addr) (c0 : Nat) (l0 : List Int) (r1 : List (S37)) (r2 : Int) (r3 : Int) (w : World) (hr0 : Kd.C (Kd.int .u8) w A0 l0.length l0) (hc0 : l0.length ≤ c0) (h : spec_DrawTermsEnd.f k l0 = some (r1, r2, r3)) :
    Calls Try.prog 37 #[.slice A0 l0.length c0] w fun e w' => ∃ v0_ : Value, e = .returned (.tuple #[v0_, .int .i64 r2, .int .i64 r3]) ∧ Kd.R k37 37 w' w.heap.size (fun _ => True) v0_ r1 ∧ Below w.heap.size w w' := by
  have HR0 := Aside0.mk hr0
  have HC0 := Aside0.mk hc0
  clear hr0 hc0
  have HB := Aside0.mk (Below.refl w.heap.size w)
  have H : ((spec_l6Open.f l0).bind fun bt429 => ((spec_l92Terms.f k bt429.1 bt429.2).bind fun bt432 => ((spec_l92End.f k bt429.1 bt432.2 bt432.1).bind fun bt436 => (if (bt432.1.length : Int) > 0 then ((spec_l6Rd_pick.f k bt429.1 bt436.2 5).bind fun bt438 => (spec_DrawTermsEnd.j0 k bt432.1 bt436.1 (decide (bt438.1 > 0)) bt429.1 bt438.2)) else (spec_DrawTermsEnd.j0 k bt432.1 bt436.1 false bt429.1 bt436.2))))) = some (r1, r2, r3) := h
  clear h
  replace H := Option.bind_eq_some_iff.mp H
  obtain ⟨⟨t429, t430⟩, A20, H⟩ := H
  replace H : ((spec_l92Terms.f k t429 t430).bind fun bt432 => ((spec_l92End.f k t429 bt432.2 bt432.1).bind fun bt436 => (if (bt432.1.length : Int) > 0 then ((spec_l6Rd_pick.f k t429 bt436.2 5).bind fun bt438 => (spec_DrawTermsEnd.j0 k bt432.1 bt436.1 (decide (bt438.1 > 0)) t429 bt438.2)) else (spec_DrawTermsEnd.j0 k bt432.1 bt436.1 false t429 bt436.2)))) = some (r1, r2, r3) := H
  have A2 := Aside0.mk A20
  clear A20
  replace H := Option.bind_eq_some_iff.mp H
  obtain ⟨⟨t432, t435⟩, A30, H⟩ := H
  replace H : ((spec_l92End.f k t429 t435 t432).bind fun bt436 => (if (t432.length : Int) > 0 then ((spec_l6Rd_pick.f k t429 bt436.2 5).bind fun bt438 => (spec_DrawTermsEnd.j0 k t432 bt436.1 (decide (bt438.1 > 0)) t429 bt438.2)) else (spec_DrawTermsEnd.j0 k t432 bt436.1 false t429 bt436.2))) = some (r1, r2, r3) := H
  have A3 := Aside0.mk A30
  clear A30
  replace H := Option.bind_eq_some_iff.mp H
  obtain ⟨⟨t436, t437⟩, A40, H⟩ := H
  replace H : (if (t432.length : Int) > 0 then ((spec_l6Rd_pick.f k t429 t437 5).bind fun bt438 => (spec_DrawTermsEnd.j0 k t432 t436 (decide (bt438.1 > 0)) t429 bt438.2)) else (spec_DrawTermsEnd.j0 k t432 t436 false t429 t437)) = some (r1, r2, r3) := H
  have A4 := Aside0.mk A40
  clear A40
  have HC5 := Aside0.mk H
  clear H
  go_enter Try.func37, Try.ntmps37
  go_upto_region 4 with (first | ((with_reducible refine gate_callee (f := 42) rfl ?_); refine goesL_ (some 9) rfl rfl Try.func42 (by kernel_rfl) rfl #[.slice A0 l0.length c0] rfl (by (try simp only [List.map_toArray, List.map_cons, List.map_nil]); first | done | rfl | (simp only [List.length_drop, List.length_take]; rfl)) ?_; (with_reducible refine (spec_l6Open.calls _ _ l0 t429 t430 w _ ?side1 ?side2 ?side3 A2.out).mono ?_); (case side1 => repeat (first | (with_reducible first | exact HB.out | apply below_alloc | apply pw_below_drewN | apply below_drew1) | exact HB.out)); (case side2 => exact HR0.out); (case side3 => exact HC0.out); rintro e w6 ⟨g431, rfl, hi, hb, hb2⟩; refine ⟨_, rfl, ?_⟩; have n0_ := Aside0.mk (hb); have n1_ := Aside0.mk (hi); clear HB; have HB := n0_; have HI431 := n1_; clear n0_ n1_; (try clear hb); (try clear hb2); (try clear hk); (try clear hi)) | ((with_reducible refine gate_callee (f := 41) rfl ?_); refine goesL_ (some 11) rfl rfl Try.func41 (by kernel_rfl) rfl #[.pointer (some ⟨g431, 0, none⟩)] rfl (by (try simp only [List.map_toArray, List.map_cons, List.map_nil]); first | done | rfl | (simp only [List.length_drop, List.length_take]; rfl)) ?_; (with_reducible refine (spec_l92Terms.calls k g431 t429 t430 t432 t435 w _ ?side1 ?side2 A3.out).mono ?_); (case side1 => repeat (first | (with_reducible first | exact HI431.out | apply IsS72.alloc | apply IsS72.drewN | apply IsS72.drew | apply IsS72.set_1) | exact HI431.out)); (case side2 => repeat (first | (with_reducible first | exact HB.out | apply below_alloc | apply pw_below_drewN | apply below_drew1 | refine below_set ?_ (IsS72.ge HI431.out)) | exact HB.out)); rintro e w7 ⟨v433, rfl, ho0, hi, hb, hk⟩; refine ⟨_, rfl, ?_⟩; have n0_ := Aside0.mk (Kd.R_lower ho0 (below_size (by repeat (first | (with_reducible first | exact HB.out | apply below_alloc | apply pw_below_drewN | apply below_drew1 | refine below_set ?_ (IsS72.ge HI431.out)) | exact HB.out)))); have n1_ := Aside0.mk (hb); have n2_ := Aside0.mk (hi); clear HB; clear HI431; have HO434 := n0_; have HB := n1_; have HI431 := n2_; clear n0_ n1_ n2_; (try clear hb); (try clear hb2); (try clear hk); (try clear hi); (try clear ho0); obtain ⟨Ao8, co8, eo8⟩ := Kd.R_slice HO434.out; subst eo8) | ((with_reducible refine gate_callee (f := 56) rfl ?_); refine goesL_ (some 14) rfl rfl Try.func56 (by kernel_rfl) rfl #[.pointer (some ⟨g431, 0, none⟩), .slice Ao8 t432.length co8] rfl (by (try simp only [List.map_toArray, List.map_cons, List.map_nil]); first | done | rfl | (simp only [List.length_drop, List.length_take]; rfl)) ?_; (with_reducible refine (spec_l92End.calls k g431 t429 t435 _ _ t432 t436 t437 w _ ?side1 ?side2 ?side3 ?side4 A4.out).mono ?_); (case side1 => repeat (first | (with_reducible first | exact HI431.out | apply IsS72.alloc | apply IsS72.drewN | apply IsS72.drew | apply IsS72.set_1) | exact HI431.out)); (case side2 => repeat (first | (with_reducible first | exact HB.out | apply below_alloc | apply pw_below_drewN | apply below_drew1 | refine below_set ?_ (IsS72.ge HI431.out)) | exact HB.out)); (case side3 => exact Kd.C_foot_own (IsS72.apart (show IsS72 w _ g431 t429 t435 from by repeat (first | (with_reducible first | exact HI431.out | apply IsS72.alloc | apply IsS72.drewN | apply IsS72.drew | apply IsS72.set_1) | exact HI431.out)) (by (with_reducible repeat (first | apply Kd.R_alloc | apply Kd.R_drewN | apply Kd.R_drew)); exact HO434.out) (by decide)) (fun _ h_ => h_.2)); (case side4 => exact (Kd.R_reads' HO434.out).2.1); rintro e w9 ⟨rfl, hi, hb, hk⟩; refine ⟨_, rfl, ?_⟩; have n0_ := Aside0.mk (Kd.R_mono (Kd.R_keep (IsS72.apart (show IsS72 w _ g431 t429 t435 from by repeat (first | (with_reducible first | exact HI431.out | apply IsS72.alloc | apply IsS72.drewN | apply IsS72.drew | apply IsS72.set_1) | exact HI431.out)) (by (with_reducible repeat (first | apply Kd.R_alloc | apply Kd.R_drewN | apply Kd.R_drew)); exact HO434.out) (by decide)) hk (fun _ h => h.2)) (fun _ h => h.1)); have n1_ := Aside0.mk (hb); have n2_ := Aside0.mk (hi); clear HO434; clear HB; clear HI431; have HO434 := n0_; have HB := n1_; have HI431 := n2_; clear n0_ n1_ n2_; (try clear hb); (try clear hb2); (try clear hk); (try clear hi)))
  (try simp only [Act.put, List.setIfInBounds_toArray, List.set_cons_zero, List.set_cons_succ])
  go_cut [22] (fun v22 wc => ∃ (kq : Nat) (x22_4 : Bool) (x432001_4 : Int), v22 = .bool x22_4 ∧ Aside0 (spec_DrawTermsEnd.j0 kq t432 t436 x22_4 t429 x432001_4 = some (r1, r2, r3)) ∧ Aside0 (kq ≤ k) ∧ Aside0 (Kd.R k37 37 wc w.heap.size (fun _ => True) (.slice Ao8 t432.length co8) t432) ∧ Aside0 (IsS72 w wc g431 t429 x432001_4) ∧ Aside0 (Below w.heap.size w wc))
  case first =>
    have H := HC5.out
    clear HC5
    by_cases c10 : (t432.length : Int) > 0
    · rw [if_pos c10] at H
      have c10b0 : decide (0 < (t432.length : Int)) = true := decide_eq_true c10
      have c10b1 : decide (0 < t432.length) = true := decide_eq_true (by omega)
      clear c10
      (first | rw [c10b0] | (simp only [i64_w, i32_w]; rw [c10b0]) | skip)
      replace H := Option.bind_eq_some_iff.mp H
      obtain ⟨⟨t438, t439⟩, A110, H⟩ := H
      replace H : (spec_DrawTermsEnd.j0 k t432 t436 (decide (t438 > 0)) t429 t439) = some (r1, r2, r3) := H
      have A11 := Aside0.mk A110
      clear A110
      have H' := Aside0.mk H
      clear H
      go_wp2_with (first | (go_at_call 46; (with_reducible refine (spec_l6Rd_pick.calls k g431 t429 t437 5 t438 t439 w _ ?side1 ?side2 A11.out).mono ?_); (case side1 => repeat (first | (with_reducible first | exact HI431.out | apply IsS72.alloc | apply IsS72.drewN | apply IsS72.drew | apply IsS72.set_1) | exact HI431.out)); (case side2 => repeat (first | (with_reducible first | exact HB.out | apply below_alloc | apply pw_below_drewN | apply below_drew1 | refine below_set ?_ (IsS72.ge HI431.out)) | exact HB.out)); rintro e w12 ⟨rfl, hi, hb, hk⟩; have n0_ := Aside0.mk (Kd.R_mono (Kd.R_keep (IsS72.apart (show IsS72 w _ g431 t429 t437 from by repeat (first | (with_reducible first | exact HI431.out | apply IsS72.alloc | apply IsS72.drewN | apply IsS72.drew | apply IsS72.set_1) | exact HI431.out)) (by (with_reducible repeat (first | apply Kd.R_alloc | apply Kd.R_drewN | apply Kd.R_drew)); exact HO434.out) (by decide)) hk (fun _ h => h.2)) (fun _ h => h.1)); have n1_ := Aside0.mk (hb); have n2_ := Aside0.mk (hi); clear HO434; clear HB; clear HI431; have HO434 := n0_; have HB := n1_; have HI431 := n2_; clear n0_ n1_ n2_; (try clear hb); (try clear hb2); (try clear hk); (try clear hi)))
      go_meet
      case rel => exact ⟨_, (decide (t438 > 0)), (t439), (by first | rfl | (simp; done) | (simp [*]; done)), H', ⟨by first | omega | exact Nat.le_refl _⟩, ⟨by (with_reducible repeat (first | apply Kd.R_alloc | apply Kd.R_drewN | apply Kd.R_drew)); exact HO434.out⟩, ⟨by repeat (first | (with_reducible first | exact HI431.out | apply IsS72.alloc | apply IsS72.drewN | apply IsS72.drew | apply IsS72.set_1) | exact HI431.out)⟩, ⟨by repeat (first | (with_reducible first | exact HB.out | apply below_alloc | apply pw_below_drewN | apply below_drew1 | refine below_set ?_ (IsS72.ge HI431.out)) | exact HB.out)⟩⟩
    · rw [if_neg c10] at H
      have c10b0 : decide (0 < (t432.length : Int)) = false := decide_eq_false c10
      have c10b1 : decide (0 < t432.length) = false := decide_eq_false (by omega)
      clear c10
      (first | rw [c10b0] | (simp only [i64_w, i32_w]; rw [c10b0]) | skip)
      have H' := Aside0.mk H
      clear H
      go_wp2
      go_meet
      case rel => exact ⟨_, (false), (t437), (by first | rfl | (simp; done) | (simp [*]; done)), H', ⟨by first | omega | exact Nat.le_refl _⟩, ⟨by (with_reducible repeat (first | apply Kd.R_alloc | apply Kd.R_drewN | apply Kd.R_drew)); exact HO434.out⟩, ⟨by repeat (first | (with_reducible first | exact HI431.out | apply IsS72.alloc | apply IsS72.drewN | apply IsS72.drew | apply IsS72.set_1) | exact HI431.out)⟩, ⟨by repeat (first | (with_reducible first | exact HB.out | apply below_alloc | apply pw_below_drewN | apply below_drew1 | refine below_set ?_ (IsS72.ge HI431.out)) | exact HB.out)⟩⟩
  case rest =>
    clear HC5
    try clear c1
    try clear p2
    try clear c3
    try clear c4
    try clear c5
    try clear c10
    try clear c10b0
    try clear c10b1
    obtain ⟨kq, x22_4, x432001_4, rfl, HA, HJ4, HO_6, HI431, HB⟩ := hcut
    cases kq with
    | zero => exact absurd HA.out (by simp [spec_DrawTermsEnd.j0])
    | succ kj4 =>
      have H := HA.out
      clear HA
      simp only [spec_DrawTermsEnd.j0] at H
      by_cases c13 : x22_4 = true
      · subst c13
        have H1 : ((spec_l6Rd_pick.f kj4 t429 x432001_4 (t432.length : Int)).bind fun bt440 => (if 0 ≤ bt440.1 then (if bt440.1 < (t432.length : Int) then (some (t432, (rd_T37 t432 bt440.1).f0, t436)) else (none)) else (none))) = some (r1, r2, r3) := by rw [if_pos rfl] at H; exact H
        clear H
        have H := H1
        clear H1
        replace H := Option.bind_eq_some_iff.mp H
        obtain ⟨⟨t440, t441⟩, A140, H⟩ := H
        replace H : (if 0 ≤ t440 then (if t440 < (t432.length : Int) then (some (t432, (rd_T37 t432 t440).f0, t436)) else (none)) else (none)) = some (r1, r2, r3) := H
        have A14 := Aside0.mk A140
        clear A140
        by_cases c15 : 0 ≤ t440
        · rw [if_pos c15] at H
          have c15b0 : decide (0 ≤ t440) = true := decide_eq_true c15
          clear c15
          by_cases c16 : t440 < (t432.length : Int)
          · rw [if_pos c16] at H
            have c16b0 : decide (t440 < (t432.length : Int)) = true := decide_eq_true c16
            clear c16
            simp only [Option.some.injEq, Prod.mk.injEq] at H
            obtain ⟨rfl, rfl, rfl⟩ := H
            try go_wp2
            have n0_ := Aside0.mk (Kd.R_drew HO_6.out)
            have n1_ := Aside0.mk (IsS72.drew HI431.out)
            have n2_ := Aside0.mk (below_drew1 HB.out)
            clear HO_6
            clear HI431
            clear HB
            have HO_6 := n0_
            have HI431 := n1_
            have HB := n2_
            clear n0_ n1_ n2_
            have p442 : 0 ≤ (t440 : Int) := of_decide_eq_true (by first | (with_reducible assumption) | assumption)
            have q442 : t440 < (t432.length : Int) := of_decide_eq_true (by first | (with_reducible assumption) | assumption)
            obtain ⟨ad442, e442, hx442_0, hx442_1⟩ := at_T37 (Kd.R_reads' HO_6.out).2.2 t440 p442 q442
            cases e442
            replace p442 := eq_true p442
            replace q442 := eq_true q442
            refine start_ (n := 13) (S := fun w' => w'.cell? (ad442.add ((t440).toNat * 2)) = some (.int .i64 ((rd_T37 t432 t440).f0)) ∧ w'.cell? ⟨(ad442.add ((t440).toNat * 2)).block, (ad442.add ((t440).toNat * 2)).off + 1, none⟩ = some (.int .i64 ((rd_T37 t432 t440).f1))) (ds := []) #[false, false, false, false, false, false, false, false, false, false, false, false, false] (by kernel_rfl) rfl rfl ⟨hx442_0, hx442_1⟩ (fun hHeld => ?_); refine with_tabW spec_DrawTermsEnd.tab5 spec_DrawTermsEnd.bits5 (fun HT_ HW_ => ?_)
            generalize wc.drew = w17 at HO_6 HI431 HB hx442_0 hx442_1 hHeld ⊢
            refine pure_ (i := 0) (N := some 23) (v := ?_) (a' := ?_) #[true, false, false, false, false, false, false, false, false, false, false, false, false] rfl rfl (any_of HT_.out (by kernel_rfl)) (fun _ _ _ h => h) (Or.inl ⟨by rfl, ?_⟩) ?_ ?_
            rotate_left
            · intro w'
              go_simp
              with_reducible rfl
            rotate_left
            · simp only [Act.put, List.setIfInBounds_toArray, List.set_cons_zero, List.set_cons_succ, i64_w, i32_w]
              rfl
            refine pure_ (i := 1) (N := some 24) (v := ?_) (a' := ?_) #[true, true, false, false, false, false, false, false, false, false, false, false, false] rfl rfl (any_of HT_.out (by kernel_rfl)) (fun _ _ _ h => h) (Or.inl ⟨by rfl, ?_⟩) ?_ ?_
            rotate_left
            · intro w'
              go_simp
              with_reducible rfl
            rotate_left
            · simp only [Act.put, List.setIfInBounds_toArray, List.set_cons_zero, List.set_cons_succ, i64_w, i32_w]
              rfl
            refine pure_ (i := 2) (N := some 25) (v := ?_) (a' := ?_) #[true, true, true, false, false, false, false, false, false, false, false, false, false] rfl rfl (any_of HT_.out (by kernel_rfl)) (fun _ _ _ h => h) (Or.inl ⟨by rfl, ?_⟩) ?_ ?_
            rotate_left
            · intro w'
              go_simp
              with_reducible rfl
            rotate_left
            · simp only [Act.put, List.setIfInBounds_toArray, List.set_cons_zero, List.set_cons_succ, i64_w, i32_w]
              rfl
            refine pure_ (i := 3) (N := some 26) (v := ?_) (a' := ?_) #[true, true, true, true, false, false, false, false, false, false, false, false, false] rfl rfl (any_of HT_.out (by kernel_rfl)) (fun _ _ _ h => h) (Or.inl ⟨by rfl, ?_⟩) ?_ ?_
            rotate_left
            · intro w'
              go_simp
              with_reducible rfl
            rotate_left
            · simp only [Act.put, List.setIfInBounds_toArray, List.set_cons_zero, List.set_cons_succ, i64_w, i32_w]
              rfl
            refine pure_ (i := 4) (N := some 27) (v := ?_) (a' := ?_) #[true, true, true, true, true, false, false, false, false, false, false, false, false] rfl rfl (any_of HT_.out (by kernel_rfl)) (fun _ _ _ h => h) (Or.inl ⟨by rfl, ?_⟩) ?_ ?_
            rotate_left
            · intro w'
              go_simp
              with_reducible rfl
            rotate_left
            · simp only [Act.put, List.setIfInBounds_toArray, List.set_cons_zero, List.set_cons_succ, i64_w, i32_w]
              rfl
            refine pure_ (i := 9) (N := some 32) (v := ?_) (a' := ?_) #[true, true, true, true, true, false, false, false, false, true, false, false, false] rfl rfl (any_of HT_.out (by kernel_rfl)) (fun _ _ _ h => h) (Or.inl ⟨by rfl, ?_⟩) ?_ ?_
            rotate_left
            · intro w'
              go_simp
              with_reducible rfl
            rotate_left
            · simp only [Act.put, List.setIfInBounds_toArray, List.set_cons_zero, List.set_cons_succ, i64_w, i32_w]
              rfl
            refine one_ (i := 5) (N := some 28) #[true, true, true, true, true, true, false, false, false, true, false, false, false] rfl rfl (one_of HT_.out (by kernel_rfl)) (by decide) (fun K hK => ?_)
            refine goes_ Try.func46 (by kernel_rfl) rfl #[.pointer (some ⟨g431, 0, none⟩), .int .i64 (t432.length : Int)] (by rfl) rfl rfl (by (try simp only [List.map_toArray, List.map_cons, List.map_nil]); first | done | rfl | (simp only [List.length_drop, List.length_take]; rfl)) ?_
            with_reducible refine (spec_l6Rd_pick.calls kj4 g431 t429 x432001_4 (t432.length : Int) t440 t441 w _ ?side1 ?side2 A14.out).mono ?_
            (case side1 => repeat (first | (with_reducible first | exact HI431.out | apply IsS72.alloc | apply IsS72.drewN | apply IsS72.drew | apply IsS72.set_1) | exact HI431.out))
            (case side2 => repeat (first | (with_reducible first | exact HB.out | apply below_alloc | apply pw_below_drewN | apply below_drew1 | refine below_set ?_ (IsS72.ge HI431.out)) | exact HB.out))
            rintro e w18 ⟨rfl, hi, hb, hk⟩
            have HS0_ := keep_cell hk (hHeld.1) (by first | (rw [add_block]; exact Kd.own_blk (IsS72.own_ne HI431.out HO_6.out (by decide))) | (show (Addr.add _ _).block ≠ _; rw [add_block]; exact Kd.own_blk (IsS72.own_ne HI431.out HO_6.out (by decide))) | exact Kd.own_blk (IsS72.own_ne HI431.out HO_6.out (by decide)))
            have HS1_ := keep_cell hk (hHeld.2) (by first | (rw [add_block]; exact Kd.own_blk (IsS72.own_ne HI431.out HO_6.out (by decide))) | (show (Addr.add _ _).block ≠ _; rw [add_block]; exact Kd.own_blk (IsS72.own_ne HI431.out HO_6.out (by decide))) | exact Kd.own_blk (IsS72.own_ne HI431.out HO_6.out (by decide)))
            refine ⟨_, rfl, ?_⟩
            have n0_ := Aside0.mk (Kd.R_mono (Kd.R_keep (IsS72.apart (show IsS72 w _ g431 t429 x432001_4 from by repeat (first | (with_reducible first | exact HI431.out | apply IsS72.alloc | apply IsS72.drewN | apply IsS72.drew | apply IsS72.set_1) | exact HI431.out)) (by (with_reducible repeat (first | apply Kd.R_alloc | apply Kd.R_drewN | apply Kd.R_drew)); exact HO_6.out) (by decide)) hk (fun _ h => h.2)) (fun _ h => h.1))
            have n1_ := Aside0.mk (hb)
            have n2_ := Aside0.mk (hi)
            clear HO_6
            clear HB
            clear HI431
            have HO_6 := n0_
            have HB := n1_
            have HI431 := n2_
            clear n0_ n1_ n2_
            (try clear hb)
            (try clear hb2)
            (try clear hk)
            (try clear hi)
            refine hK.out _ _ ⟨HS0_, HS1_⟩ (fun hHeld => ?_)
            clear hK K
            refine norm_ (a' := ?_) ?_ ?_
            rotate_left
            · show Act.put _ (some 28) _ = _
              simp only [Act.put, List.setIfInBounds_toArray, List.set_cons_zero, List.set_cons_succ, i64_w, i32_w]
              rfl
            refine pure_ (i := 6) (N := some 29) (v := ?_) (a' := ?_) #[true, true, true, true, true, true, true, false, false, true, false, false, false] rfl rfl (any_of HT_.out (by kernel_rfl)) (fun _ _ _ h => h) (Or.inl ⟨by rfl, ?_⟩) ?_ ?_
            rotate_left
            · intro w'
              go_simp
              with_reducible rfl
            rotate_left
            · simp only [Act.put, List.setIfInBounds_toArray, List.set_cons_zero, List.set_cons_succ, i64_w, i32_w]
              rfl
            refine pure_ (i := 7) (N := some 30) (v := ?_) (a' := ?_) #[true, true, true, true, true, true, true, true, false, true, false, false, false] rfl rfl (any_of HT_.out (by kernel_rfl)) (fun _ _ _ h => h) (Or.inl ⟨by rfl, ?_⟩) ?_ ?_
            rotate_left
            · intro w'
              go_simp
              with_reducible rfl
            rotate_left
            · simp only [Act.put, List.setIfInBounds_toArray, List.set_cons_zero, List.set_cons_succ, i64_w, i32_w]
              rfl
            refine pure_ (i := 10) (N := some 2) (v := ?_) (a' := ?_) #[true, true, true, true, true, true, true, true, false, true, true, false, false] rfl rfl (any_of HT_.out (by kernel_rfl)) (fun _ _ _ h => h) (Or.inl ⟨by rfl, ?_⟩) ?_ ?_
            rotate_left
            · intro w'
              go_simp
              with_reducible rfl
            rotate_left
            · simp only [Act.put, List.setIfInBounds_toArray, List.set_cons_zero, List.set_cons_succ, i64_w, i32_w]
              rfl
            refine take_ (i := 8) (N := some 31) (v := ?_) (a' := ?_) #[true, true, true, true, true, true, true, true, true, true, true, false, false] rfl rfl (take_ofW HT_.out HW_.out (by kernel_rfl)) (fun _ _ _ h => h) (Or.inl ⟨by rfl, ?_⟩) hHeld ?_ ?_
            rotate_left
            · rintro w' ⟨s0, s1⟩
              go_simp
              with_reducible rfl
            rotate_left
            · simp only [Act.put, List.setIfInBounds_toArray, List.set_cons_zero, List.set_cons_succ, i64_w, i32_w]
              rfl
            refine pure_ (i := 11) (N := some 3) (v := ?_) (a' := ?_) #[true, true, true, true, true, true, true, true, true, true, true, true, false] rfl rfl (any_of HT_.out (by kernel_rfl)) (fun _ _ _ h => h) (Or.inl ⟨by rfl, ?_⟩) ?_ ?_
            rotate_left
            · intro w'
              go_simp
              with_reducible rfl
            rotate_left
            · simp only [Act.put, List.setIfInBounds_toArray, List.set_cons_zero, List.set_cons_succ, i64_w, i32_w]
              rfl
            refine pure_ (i := 12) (N := some 4) (v := ?_) (a' := ?_) #[true, true, true, true, true, true, true, true, true, true, true, true, true] rfl rfl (any_of HT_.out (by kernel_rfl)) (fun _ _ _ h => h) (Or.inl ⟨by rfl, ?_⟩) ?_ ?_
            rotate_left
            · intro w'
              go_simp
              with_reducible rfl
            rotate_left
            · simp only [Act.put, List.setIfInBounds_toArray, List.set_cons_zero, List.set_cons_succ, i64_w, i32_w]
              rfl
            refine done_ (done_of HT_.out (by kernel_rfl)) ?_
            try go_wp2
            go_ret3
            exact ⟨_, by first | rfl | (simp [errW_none, errW_some] <;> rfl) | (simp [*, errW_none, errW_some] <;> rfl), by (with_reducible repeat (first | apply Kd.R_alloc | apply Kd.R_drewN | apply Kd.R_drew)); exact HO_6.out, by repeat (first | (with_reducible first | exact HB.out | apply below_alloc | apply pw_below_drewN | apply below_drew1 | refine below_set ?_ (IsS72.ge HI431.out)) | exact HB.out)⟩
          · rw [if_neg c16] at H
            exact absurd H (by simp)
        · rw [if_neg c15] at H
          exact absurd H (by simp)
      · replace c13 := Bool.eq_false_iff.mpr c13
        subst c13
        have H1 : ((spec_l6Rd_pick.f kj4 t429 x432001_4 10).bind fun bt443 => (some (t432, bt443.1, t436))) = some (r1, r2, r3) := by rw [if_neg (show ¬ (false = true) by decide)] at H; exact H
        clear H
        have H := H1
        clear H1
        replace H := Option.bind_eq_some_iff.mp H
        obtain ⟨⟨t443, t444⟩, A190, H⟩ := H
        replace H : (some (t432, t443, t436)) = some (r1, r2, r3) := H
        have A19 := Aside0.mk A190
        clear A190
        simp only [Option.some.injEq, Prod.mk.injEq] at H
        obtain ⟨rfl, rfl, rfl⟩ := H
        go_wp2_with (first | ((with_reducible refine gate_callee (f := 46) rfl ?_); refine goesL_ (some 35) rfl rfl Try.func46 (by kernel_rfl) rfl #[.pointer (some ⟨g431, 0, none⟩), .int .i64 10] rfl (by (try simp only [List.map_toArray, List.map_cons, List.map_nil]); first | done | rfl | (simp only [List.length_drop, List.length_take]; rfl)) ?_; (with_reducible refine (spec_l6Rd_pick.calls kj4 g431 t429 x432001_4 10 t443 t444 w _ ?side1 ?side2 A19.out).mono ?_); (case side1 => repeat (first | (with_reducible first | exact HI431.out | apply IsS72.alloc | apply IsS72.drewN | apply IsS72.drew | apply IsS72.set_1) | exact HI431.out)); (case side2 => repeat (first | (with_reducible first | exact HB.out | apply below_alloc | apply pw_below_drewN | apply below_drew1 | refine below_set ?_ (IsS72.ge HI431.out)) | exact HB.out)); rintro e w20 ⟨rfl, hi, hb, hk⟩; refine ⟨_, rfl, ?_⟩; have n0_ := Aside0.mk (Kd.R_mono (Kd.R_keep (IsS72.apart (show IsS72 w _ g431 t429 x432001_4 from by repeat (first | (with_reducible first | exact HI431.out | apply IsS72.alloc | apply IsS72.drewN | apply IsS72.drew | apply IsS72.set_1) | exact HI431.out)) (by (with_reducible repeat (first | apply Kd.R_alloc | apply Kd.R_drewN | apply Kd.R_drew)); exact HO_6.out) (by decide)) hk (fun _ h => h.2)) (fun _ h => h.1)); have n1_ := Aside0.mk (hb); have n2_ := Aside0.mk (hi); clear HO_6; clear HB; clear HI431; have HO_6 := n0_; have HB := n1_; have HI431 := n2_; clear n0_ n1_ n2_; (try clear hb); (try clear hb2); (try clear hk); (try clear hi)))
        go_ret3
        exact ⟨_, by first | rfl | (simp [errW_none, errW_some] <;> rfl) | (simp [*, errW_none, errW_some] <;> rfl), by (with_reducible repeat (first | apply Kd.R_alloc | apply Kd.R_drewN | apply Kd.R_drew)); exact HO_6.out, by repeat (first | (with_reducible first | exact HB.out | apply below_alloc | apply pw_below_drewN | apply below_drew1 | refine below_set ?_ (IsS72.ge HI431.out)) | exact HB.out)⟩
end Go.Proofs.Ytamncgpajkoiaaa.T
namespace Go.Proofs.Ytamncgpajkoiaaa.T
open Go.RowKit Go.Proofs.YtamncgpajkoiaaaW.PrintWords Go.Proofs.YtamncgpajkoiaaaW.PrintLast Go.Proofs.YtamncgpajkoiaaaW.PrintMore

set_option linter.unusedVariables false
set_option linter.unusedSimpArgs false

mutual
def laws_FnTermsEnd.j0 : Nat → List (S37) → Int → Int → Int → Int → Bool → Option (Bool)
  | 0, _, _, _, _, _, _ => none
  | k + 1, x3, x4, x5, x6, x7, x32 => if x32 = true then (some (x6 == x7)) else (laws_FnTermsEnd.l0 k x3 x4 x5 x6 0)
def laws_FnTermsEnd.l0 : Nat → List (S37) → Int → Int → Int → Int → Option (Bool)
  | 0, _, _, _, _, _ => none
  | k + 1, x3, x4, x5, x6, x8 => if x8 < (x3.length : Int) then (if 0 ≤ x8 then (if ((rd_T37 x3 x8).f0) = x4 then (if (wrap64 (x8 + 1)) < (x3.length : Int) then (if 0 ≤ (wrap64 (x8 + 1)) then (if x6 = ((rd_T37 x3 (wrap64 (x8 + 1))).f1) then (some (decide (x6 > ((rd_T37 x3 x8).f1)))) else (some false)) else (none)) else (if x6 = x5 then (some (decide (x6 > ((rd_T37 x3 x8).f1)))) else (some false))) else (laws_FnTermsEnd.l0 k x3 x4 x5 x6 (wrap64 (x8 + 1)))) else (none)) else (some false)
end
def laws_FnTermsEnd.f (k : Nat) (l0 : List Int) : Option (Bool) := if (l0.length : Int) > 1048576 then (some true) else ((spec_DrawTermsEnd.f k l0).bind fun bt445 => ((impl_TermsEnd.f k bt445.1 bt445.2.1 bt445.2.2).bind fun t450 => ((spec_TermsEnd.f k bt445.1 bt445.2.1 bt445.2.2).bind fun t451 => (if t450 = t451 then (laws_FnTermsEnd.j0 k bt445.1 bt445.2.1 bt445.2.2 t450 t451 (decide (t451 < 0))) else (laws_FnTermsEnd.j0 k bt445.1 bt445.2.1 bt445.2.2 t450 t451 true)))))
theorem laws_FnTermsEnd.mono_l : ∀ k, (∀ y0 y1 y2 y3 y4 y5, LeO (laws_FnTermsEnd.j0 k y0 y1 y2 y3 y4 y5) (laws_FnTermsEnd.j0 (k + 1) y0 y1 y2 y3 y4 y5)) ∧ (∀ y0 y1 y2 y3 y4, LeO (laws_FnTermsEnd.l0 k y0 y1 y2 y3 y4) (laws_FnTermsEnd.l0 (k + 1) y0 y1 y2 y3 y4))
  | 0 => ⟨fun _ _ _ _ _ _ r h => by simp [laws_FnTermsEnd.j0] at h, fun _ _ _ _ _ r h => by simp [laws_FnTermsEnd.l0] at h⟩
  | k + 1 => by
    obtain ⟨ih0, ih1⟩ := laws_FnTermsEnd.mono_l k
    refine ⟨?_, ?_⟩
    · intro y0 y1 y2 y3 y4 y5
      unfold laws_FnTermsEnd.j0
      repeat' first
      | (with_reducible exact ih0 _ _ _ _ _ _)
      | (with_reducible exact ih1 _ _ _ _ _)
      | (with_reducible exact impl_TermsEnd.mono _ _ _ _)
      | (with_reducible exact spec_DrawTermsEnd.mono _ _)
      | (with_reducible exact spec_TermsEnd.mono _ _ _ _)
      | (with_reducible exact LeO.refl _)
      | (with_reducible exact LeO.none _)
      | (with_reducible refine LeO.ite ?_ ?_)
      | (with_reducible refine LeO.bind ?_ (fun _ => ?_))
      | exact ih0 _ _ _ _ _ _
      | exact ih1 _ _ _ _ _
      | exact impl_TermsEnd.mono _ _ _ _
      | exact spec_DrawTermsEnd.mono _ _
      | exact spec_TermsEnd.mono _ _ _ _
      | exact LeO.none _
      | refine LeO.ite ?_ ?_
      | refine LeO.bind ?_ (fun _ => ?_)
    · intro y0 y1 y2 y3 y4
      unfold laws_FnTermsEnd.l0
      repeat' first
      | (with_reducible exact ih0 _ _ _ _ _ _)
      | (with_reducible exact ih1 _ _ _ _ _)
      | (with_reducible exact impl_TermsEnd.mono _ _ _ _)
      | (with_reducible exact spec_DrawTermsEnd.mono _ _)
      | (with_reducible exact spec_TermsEnd.mono _ _ _ _)
      | (with_reducible exact LeO.refl _)
      | (with_reducible exact LeO.none _)
      | (with_reducible refine LeO.ite ?_ ?_)
      | (with_reducible refine LeO.bind ?_ (fun _ => ?_))
      | exact ih0 _ _ _ _ _ _
      | exact ih1 _ _ _ _ _
      | exact impl_TermsEnd.mono _ _ _ _
      | exact spec_DrawTermsEnd.mono _ _
      | exact spec_TermsEnd.mono _ _ _ _
      | exact LeO.none _
      | refine LeO.ite ?_ ?_
      | refine LeO.bind ?_ (fun _ => ?_)
theorem laws_FnTermsEnd.mono : ∀ a0 k, LeO (laws_FnTermsEnd.f k a0) (laws_FnTermsEnd.f (k + 1) a0) := by
  intro a0 k
  obtain ⟨ih0, ih1⟩ := laws_FnTermsEnd.mono_l k
  unfold laws_FnTermsEnd.f
  repeat' first
      | (with_reducible exact ih0 _ _ _ _ _ _)
      | (with_reducible exact ih1 _ _ _ _ _)
      | (with_reducible exact impl_TermsEnd.mono _ _ _ _)
      | (with_reducible exact spec_DrawTermsEnd.mono _ _)
      | (with_reducible exact spec_TermsEnd.mono _ _ _ _)
      | (with_reducible exact LeO.refl _)
      | (with_reducible exact LeO.none _)
      | (with_reducible refine LeO.ite ?_ ?_)
      | (with_reducible refine LeO.bind ?_ (fun _ => ?_))
      | exact ih0 _ _ _ _ _ _
      | exact ih1 _ _ _ _ _
      | exact impl_TermsEnd.mono _ _ _ _
      | exact spec_DrawTermsEnd.mono _ _
      | exact spec_TermsEnd.mono _ _ _ _
      | exact LeO.none _
      | refine LeO.ite ?_ ?_
      | refine LeO.bind ?_ (fun _ => ?_)
set_option maxHeartbeats 8000000 in
set_option maxRecDepth 100000 in
theorem laws_FnTermsEnd.calls (k : Nat) (A0 : Option Addr) (c0 : Nat) (l0 : List Int) (r : Bool) (w : World) (hr0 : Kd.C (Kd.int .u8) w A0 l0.length l0) (hc0 : l0.length ≤ c0) (h : laws_FnTermsEnd.f k l0 = some r) :
    Calls Try.prog 12 #[.slice A0 l0.length c0] w fun e w' => e = .returned (.bool r) ∧ Below w.heap.size w w' := by
  have HR0 := Aside0.mk hr0
  have HC0 := Aside0.mk hc0
  clear hr0 hc0
  have HB := Aside0.mk (Below.refl w.heap.size w)
  have H : (if (l0.length : Int) > 1048576 then (some true) else ((spec_DrawTermsEnd.f k l0).bind fun bt445 => ((impl_TermsEnd.f k bt445.1 bt445.2.1 bt445.2.2).bind fun t450 => ((spec_TermsEnd.f k bt445.1 bt445.2.1 bt445.2.2).bind fun t451 => (if t450 = t451 then (laws_FnTermsEnd.j0 k bt445.1 bt445.2.1 bt445.2.2 t450 t451 (decide (t451 < 0))) else (laws_FnTermsEnd.j0 k bt445.1 bt445.2.1 bt445.2.2 t450 t451 true)))))) = some r := h
  clear h
  by_cases c2 : (l0.length : Int) > 1048576
  · rw [if_pos c2] at H
    have c2b0 : decide (1048576 < (l0.length : Int)) = true := decide_eq_true c2
    have c2b1 : decide (1048576 < l0.length) = true := decide_eq_true (by omega)
    clear c2
    obtain rfl := Option.some.inj H
    go_enter Try.func12, Try.ntmps12
    go_wp2
    go_ret
    exact ⟨by first | rfl | (simp [errW_none, errW_some] <;> rfl) | (simp [*, errW_none, errW_some] <;> rfl), by repeat (first | (with_reducible first | exact HB.out | apply below_alloc | apply pw_below_drewN | apply below_drew1) | exact HB.out)⟩
  · rw [if_neg c2] at H
    have c2b0 : decide (1048576 < (l0.length : Int)) = false := decide_eq_false c2
    have c2b1 : decide (1048576 < l0.length) = false := decide_eq_false (by omega)
    clear c2
    replace H := Option.bind_eq_some_iff.mp H
    obtain ⟨⟨t445, t446, t447⟩, A30, H⟩ := H
    replace H : ((impl_TermsEnd.f k t445 t446 t447).bind fun t450 => ((spec_TermsEnd.f k t445 t446 t447).bind fun t451 => (if t450 = t451 then (laws_FnTermsEnd.j0 k t445 t446 t447 t450 t451 (decide (t451 < 0))) else (laws_FnTermsEnd.j0 k t445 t446 t447 t450 t451 true)))) = some r := H
    have A3 := Aside0.mk A30
    clear A30
    replace H := Option.bind_eq_some_iff.mp H
    obtain ⟨t450, A40, H⟩ := H
    replace H : ((spec_TermsEnd.f k t445 t446 t447).bind fun t451 => (if t450 = t451 then (laws_FnTermsEnd.j0 k t445 t446 t447 t450 t451 (decide (t451 < 0))) else (laws_FnTermsEnd.j0 k t445 t446 t447 t450 t451 true))) = some r := H
    have A4 := Aside0.mk A40
    clear A40
    replace H := Option.bind_eq_some_iff.mp H
    obtain ⟨t451, A50, H⟩ := H
    replace H : (if t450 = t451 then (laws_FnTermsEnd.j0 k t445 t446 t447 t450 t451 (decide (t451 < 0))) else (laws_FnTermsEnd.j0 k t445 t446 t447 t450 t451 true)) = some r := H
    have A5 := Aside0.mk A50
    clear A50
    have HC6 := Aside0.mk H
    clear H
    go_enter Try.func12, Try.ntmps12
    go_upto_region 6 with (first | ((with_reducible refine gate_callee (f := 37) rfl ?_); refine goesL_ (some 14) rfl rfl Try.func37 (by kernel_rfl) rfl #[.slice A0 l0.length c0] rfl (by (try simp only [List.map_toArray, List.map_cons, List.map_nil]); first | done | rfl | (simp only [List.length_drop, List.length_take]; rfl)) ?_; (with_reducible refine (spec_DrawTermsEnd.calls k _ _ l0 t445 t446 t447 _ ?side1 ?side2 A3.out).mono ?_); (case side1 => repeat (first | exact HR0.out | (with_reducible refine Kd.C_alloc ?_ _) | (with_reducible refine Kd.C_drewN ?_ _) | (with_reducible refine Kd.C_drew ?_))); (case side2 => exact HC0.out); rintro e w7 ⟨v448, rfl, ho0, hb⟩; refine ⟨_, rfl, ?_⟩; have n0_ := Aside0.mk (Kd.R_lower ho0 (below_size (by repeat (first | (with_reducible first | exact HB.out | apply below_alloc | apply pw_below_drewN | apply below_drew1) | exact HB.out)))); have n1_ := Aside0.mk (below_step (by repeat (first | (with_reducible first | exact HB.out | apply below_alloc | apply pw_below_drewN | apply below_drew1) | exact HB.out)) hb); clear HB; have HO449 := n0_; have HB := n1_; clear n0_ n1_; (try clear hb); (try clear hb2); (try clear hk); (try clear hi); (try clear ho0); obtain ⟨Ao8, co8, eo8⟩ := Kd.R_slice HO449.out; subst eo8) | ((with_reducible refine gate_callee (f := 36) rfl ?_); refine goesL_ (some 21) rfl rfl Try.func36 (by kernel_rfl) rfl #[.slice Ao8 t445.length co8, .int .i64 t446, .int .i64 t447] rfl (by (try simp only [List.map_toArray, List.map_cons, List.map_nil]); first | done | rfl | (simp only [List.length_drop, List.length_take]; rfl)) ?_; (with_reducible refine (impl_TermsEnd.calls k _ _ t445 t446 t447 t450 _ ?side1 ?side2 A4.out).mono ?_); (case side1 => repeat (first | exact (Kd.R_reads' HO449.out).2.2 | (with_reducible refine Kd.C_alloc ?_ _) | (with_reducible refine Kd.C_drewN ?_ _) | (with_reducible refine Kd.C_drew ?_))); (case side2 => exact (Kd.R_reads' HO449.out).2.1); rintro e w9 ⟨rfl, hb⟩; refine ⟨_, rfl, ?_⟩; have n0_ := Aside0.mk (Kd.R_below (by (with_reducible repeat (first | apply Kd.R_alloc | apply Kd.R_drewN | apply Kd.R_drew)); exact HO449.out) hb); have n1_ := Aside0.mk (below_step (by repeat (first | (with_reducible first | exact HB.out | apply below_alloc | apply pw_below_drewN | apply below_drew1) | exact HB.out)) hb); clear HO449; clear HB; have HO449 := n0_; have HB := n1_; clear n0_ n1_; (try clear hb); (try clear hb2); (try clear hk); (try clear hi)) | ((with_reducible refine gate_callee (f := 35) rfl ?_); refine goesL_ (some 25) rfl rfl Try.func35 (by kernel_rfl) rfl #[.slice Ao8 t445.length co8, .int .i64 t446, .int .i64 t447] rfl (by (try simp only [List.map_toArray, List.map_cons, List.map_nil]); first | done | rfl | (simp only [List.length_drop, List.length_take]; rfl)) ?_; (with_reducible refine (spec_TermsEnd.calls k _ _ t445 t446 t447 t451 _ ?side1 ?side2 A5.out).mono ?_); (case side1 => repeat (first | exact (Kd.R_reads' HO449.out).2.2 | (with_reducible refine Kd.C_alloc ?_ _) | (with_reducible refine Kd.C_drewN ?_ _) | (with_reducible refine Kd.C_drew ?_))); (case side2 => exact (Kd.R_reads' HO449.out).2.1); rintro e w10 ⟨rfl, hb⟩; refine ⟨_, rfl, ?_⟩; have n0_ := Aside0.mk (Kd.R_below (by (with_reducible repeat (first | apply Kd.R_alloc | apply Kd.R_drewN | apply Kd.R_drew)); exact HO449.out) hb); have n1_ := Aside0.mk (below_step (by repeat (first | (with_reducible first | exact HB.out | apply below_alloc | apply pw_below_drewN | apply below_drew1) | exact HB.out)) hb); clear HO449; clear HB; have HO449 := n0_; have HB := n1_; clear n0_ n1_; (try clear hb); (try clear hb2); (try clear hk); (try clear hi)))
    (try simp only [Act.put, List.setIfInBounds_toArray, List.set_cons_zero, List.set_cons_succ])
    go_cut [32] (fun v32 wc => ∃ (kq : Nat) (x32_5 : Bool), v32 = .bool x32_5 ∧ Aside0 (laws_FnTermsEnd.j0 kq t445 t446 t447 t450 t451 x32_5 = some r) ∧ Aside0 (kq ≤ k) ∧ Aside0 (Kd.R k37 37 wc w.heap.size (fun _ => True) (.slice Ao8 t445.length co8) t445) ∧ Aside0 (Below w.heap.size w wc))
    case first =>
      have H := HC6.out
      clear HC6
      by_cases c11 : t450 = t451
      · rw [if_pos c11] at H
        have c11b0 : (t450 == t451) = true := beq_iff_eq.mpr c11
        have c11b1 : (t450 != t451) = false := bne_eq_false_iff_eq.mpr c11
        clear c11
        (first | rw [c11b0] | (simp only [i64_w, i32_w]; rw [c11b0]) | skip)
        have H' := Aside0.mk H
        clear H
        go_wp2
        go_meet
        case rel => exact ⟨_, (decide (t451 < 0)), (by first | rfl | (simp; done) | (simp [*]; done)), H', ⟨by first | omega | exact Nat.le_refl _⟩, ⟨by (with_reducible repeat (first | apply Kd.R_alloc | apply Kd.R_drewN | apply Kd.R_drew)); exact HO449.out⟩, ⟨by repeat (first | (with_reducible first | exact HB.out | apply below_alloc | apply pw_below_drewN | apply below_drew1) | exact HB.out)⟩⟩
      · rw [if_neg c11] at H
        have c11b0 : (t450 == t451) = false := beq_eq_false_iff_ne.mpr c11
        have c11b1 : (t450 != t451) = true := bne_iff_ne.mpr c11
        (first | rw [c11b0] | (simp only [i64_w, i32_w]; rw [c11b0]) | skip)
        have H' := Aside0.mk H
        clear H
        go_wp2
        go_meet
        case rel => exact ⟨_, (true), (by first | rfl | (simp; done) | (simp [*]; done)), H', ⟨by first | omega | exact Nat.le_refl _⟩, ⟨by (with_reducible repeat (first | apply Kd.R_alloc | apply Kd.R_drewN | apply Kd.R_drew)); exact HO449.out⟩, ⟨by repeat (first | (with_reducible first | exact HB.out | apply below_alloc | apply pw_below_drewN | apply below_drew1) | exact HB.out)⟩⟩
    case rest =>
      clear HC6
      try clear c1
      try clear c2
      try clear c2b0
      try clear c2b1
      try clear p2
      try clear c3
      try clear c11
      try clear c11b0
      try clear c11b1
      obtain ⟨kq, x32_5, rfl, HA, HJ5, HO_3, HB⟩ := hcut
      cases kq with
      | zero => exact absurd HA.out (by simp [laws_FnTermsEnd.j0])
      | succ kj5 =>
        have H := HA.out
        clear HA
        simp only [laws_FnTermsEnd.j0] at H
        by_cases c12 : x32_5 = true
        · subst c12
          have H1 : (some (t450 == t451)) = some r := by rw [if_pos rfl] at H; exact H
          clear H
          have H := H1
          clear H1
          obtain rfl := Option.some.inj H
          go_wp2
          go_ret
          exact ⟨by first | rfl | (simp [errW_none, errW_some] <;> rfl) | (simp [*, errW_none, errW_some] <;> rfl), by repeat (first | (with_reducible first | exact HB.out | apply below_alloc | apply pw_below_drewN | apply below_drew1) | exact HB.out)⟩
        · replace c12 := Bool.eq_false_iff.mpr c12
          subst c12
          have H1 : (laws_FnTermsEnd.l0 kj5 t445 t446 t447 t450 0) = some r := by rw [if_neg (show ¬ (false = true) by decide)] at H; exact H
          clear H
          have H := H1
          clear H1
          have H' := Aside0.mk H
          clear H
          go_wp2
          go_loopg [8] kj5 (fun kq v8 w' => ∃ (x8_2 : Int), v8 = .int .i64 x8_2 ∧ Aside0 (laws_FnTermsEnd.l0 kq t445 t446 t447 t450 x8_2 = some r) ∧ Aside0 (kq ≤ kj5) ∧ Aside0 (Kd.R k37 37 w' w.heap.size (fun _ => True) (.slice Ao8 t445.length co8) t445) ∧ Aside0 (Below w.heap.size w w'))
          case atStart => exact ⟨(0), (by first | rfl | (simp; done) | (simp [*]; done)), H', ⟨Nat.le_refl _⟩, ⟨by (with_reducible repeat (first | apply Kd.R_alloc | apply Kd.R_drewN | apply Kd.R_drew)); exact HO_3.out⟩, ⟨by repeat (first | (with_reducible first | exact HB.out | apply below_alloc | apply pw_below_drewN | apply below_drew1) | exact HB.out)⟩⟩
          case round =>
            clear H'
            try clear c1
            try clear c2
            try clear c2b0
            try clear c2b1
            try clear p2
            try clear c3
            try clear c11
            try clear c11b0
            try clear c11b1
            try clear c12
            try clear p2
            obtain ⟨x8_2, rfl, HA, HK2, HO_3, HB⟩ := hrel
            cases gk with
            | zero => exact absurd HA.out (by simp [laws_FnTermsEnd.l0])
            | succ k2 =>
              have H := HA.out
              clear HA
              simp only [laws_FnTermsEnd.l0] at H
              by_cases c13 : x8_2 < (t445.length : Int)
              · rw [if_pos c13] at H
                have c13b0 : decide (x8_2 < (t445.length : Int)) = true := decide_eq_true c13
                clear c13
                by_cases c14 : 0 ≤ x8_2
                · rw [if_pos c14] at H
                  have c14b0 : decide (0 ≤ x8_2) = true := decide_eq_true c14
                  clear c14
                  by_cases c15 : ((rd_T37 t445 x8_2).f0) = t446
                  · rw [if_pos c15] at H
                    have c15b0 : (((rd_T37 t445 x8_2).f0) == t446) = true := beq_iff_eq.mpr c15
                    have c15b1 : (((rd_T37 t445 x8_2).f0) != t446) = false := bne_eq_false_iff_eq.mpr c15
                    clear c15
                    by_cases c16 : (wrap64 (x8_2 + 1)) < (t445.length : Int)
                    · rw [if_pos c16] at H
                      have c16b0 : decide ((wrap64 (x8_2 + 1)) < (t445.length : Int)) = true := decide_eq_true c16
                      clear c16
                      obtain ⟨ji17, hji17⟩ : ∃ j_ : Int, (wrap64 (x8_2 + 1)) = j_ := ⟨_, rfl⟩
                      replace H : (if 0 ≤ (ji17) then (if t450 = ((rd_T37 t445 (ji17)).f1) then (some (decide (t450 > ((rd_T37 t445 x8_2).f1)))) else (some false)) else (none)) = some r := by first | (rw [hji17] at H; exact H) | (simp only [hji17] at H ⊢; exact H)
                      (try rw [hji17] at c16b0)
                      have hji17w : (IntKind.i64.wrap (x8_2 + 1)) = ji17 := (i64_w _).trans hji17
                      by_cases c18 : 0 ≤ (ji17)
                      · rw [if_pos c18] at H
                        have c18b0 : decide (0 ≤ (ji17)) = true := decide_eq_true c18
                        clear c18
                        by_cases c19 : t450 = ((rd_T37 t445 (ji17)).f1)
                        · rw [if_pos c19] at H
                          have c19b0 : (t450 == ((rd_T37 t445 (ji17)).f1)) = true := beq_iff_eq.mpr c19
                          have c19b1 : (t450 != ((rd_T37 t445 (ji17)).f1)) = false := bne_eq_false_iff_eq.mpr c19
                          clear c19
                          obtain rfl := Option.some.inj H
                          have p452 : 0 ≤ (x8_2 : Int) := of_decide_eq_true (by first | (with_reducible assumption) | assumption)
                          have q452 : x8_2 < (t445.length : Int) := of_decide_eq_true (by first | (with_reducible assumption) | assumption)
                          obtain ⟨ad452, e452, hx452_0, hx452_1⟩ := at_T37 (Kd.R_reads' HO_3.out).2.2 x8_2 p452 q452
                          cases e452
                          replace p452 := eq_true p452
                          replace q452 := eq_true q452
                          have p453 : 0 ≤ ((ji17) : Int) := of_decide_eq_true (by first | (with_reducible assumption) | assumption)
                          have q453 : (ji17) < (t445.length : Int) := of_decide_eq_true (by first | (with_reducible assumption) | assumption)
                          obtain ⟨ad453, e453, hx453_0, hx453_1⟩ := at_T37 (Kd.R_reads' HO_3.out).2.2 (ji17) p453 q453
                          obtain rfl : ad452 = ad453 := (by injection e453)
                          replace p453 := eq_true p453
                          replace q453 := eq_true q453
                          have p454 : 0 ≤ (x8_2 : Int) := of_decide_eq_true (by first | (with_reducible assumption) | assumption)
                          have q454 : x8_2 < (t445.length : Int) := of_decide_eq_true (by first | (with_reducible assumption) | assumption)
                          obtain ⟨ad454, e454, hx454_0, hx454_1⟩ := at_T37 (Kd.R_reads' HO_3.out).2.2 x8_2 p454 q454
                          obtain rfl : ad452 = ad454 := (by injection e454)
                          replace p454 := eq_true p454
                          replace q454 := eq_true q454
                          go_wp2
                          go_ret
                          exact ⟨by first | rfl | (simp [errW_none, errW_some] <;> rfl) | (simp only [← hji17]; first | rfl | (simp [errW_none, errW_some] <;> rfl)) | (simp [*, errW_none, errW_some] <;> rfl), by repeat (first | (with_reducible first | exact HB.out | apply below_alloc | apply pw_below_drewN | apply below_drew1) | exact HB.out)⟩
                        · rw [if_neg c19] at H
                          have c19b0 : (t450 == ((rd_T37 t445 (ji17)).f1)) = false := beq_eq_false_iff_ne.mpr c19
                          have c19b1 : (t450 != ((rd_T37 t445 (ji17)).f1)) = true := bne_iff_ne.mpr c19
                          obtain rfl := Option.some.inj H
                          have p452 : 0 ≤ (x8_2 : Int) := of_decide_eq_true (by first | (with_reducible assumption) | assumption)
                          have q452 : x8_2 < (t445.length : Int) := of_decide_eq_true (by first | (with_reducible assumption) | assumption)
                          obtain ⟨ad452, e452, hx452_0, hx452_1⟩ := at_T37 (Kd.R_reads' HO_3.out).2.2 x8_2 p452 q452
                          cases e452
                          replace p452 := eq_true p452
                          replace q452 := eq_true q452
                          have p453 : 0 ≤ ((ji17) : Int) := of_decide_eq_true (by first | (with_reducible assumption) | assumption)
                          have q453 : (ji17) < (t445.length : Int) := of_decide_eq_true (by first | (with_reducible assumption) | assumption)
                          obtain ⟨ad453, e453, hx453_0, hx453_1⟩ := at_T37 (Kd.R_reads' HO_3.out).2.2 (ji17) p453 q453
                          obtain rfl : ad452 = ad453 := (by injection e453)
                          replace p453 := eq_true p453
                          replace q453 := eq_true q453
                          go_wp2
                          go_ret
                          exact ⟨by first | rfl | (simp [errW_none, errW_some] <;> rfl) | (simp only [← hji17]; first | rfl | (simp [errW_none, errW_some] <;> rfl)) | (simp [*, errW_none, errW_some] <;> rfl), by repeat (first | (with_reducible first | exact HB.out | apply below_alloc | apply pw_below_drewN | apply below_drew1) | exact HB.out)⟩
                      · rw [if_neg c18] at H
                        exact absurd H (by simp)
                    · rw [if_neg c16] at H
                      have c16b0 : decide ((wrap64 (x8_2 + 1)) < (t445.length : Int)) = false := decide_eq_false c16
                      clear c16
                      by_cases c20 : t450 = t447
                      · rw [if_pos c20] at H
                        have c20b0 : (t450 == t447) = true := beq_iff_eq.mpr c20
                        have c20b1 : (t450 != t447) = false := bne_eq_false_iff_eq.mpr c20
                        clear c20
                        obtain rfl := Option.some.inj H
                        have p452 : 0 ≤ (x8_2 : Int) := of_decide_eq_true (by first | (with_reducible assumption) | assumption)
                        have q452 : x8_2 < (t445.length : Int) := of_decide_eq_true (by first | (with_reducible assumption) | assumption)
                        obtain ⟨ad452, e452, hx452_0, hx452_1⟩ := at_T37 (Kd.R_reads' HO_3.out).2.2 x8_2 p452 q452
                        cases e452
                        replace p452 := eq_true p452
                        replace q452 := eq_true q452
                        have p455 : 0 ≤ (x8_2 : Int) := of_decide_eq_true (by first | (with_reducible assumption) | assumption)
                        have q455 : x8_2 < (t445.length : Int) := of_decide_eq_true (by first | (with_reducible assumption) | assumption)
                        obtain ⟨ad455, e455, hx455_0, hx455_1⟩ := at_T37 (Kd.R_reads' HO_3.out).2.2 x8_2 p455 q455
                        obtain rfl : ad452 = ad455 := (by injection e455)
                        replace p455 := eq_true p455
                        replace q455 := eq_true q455
                        go_wp2
                        go_ret
                        exact ⟨by first | rfl | (simp [errW_none, errW_some] <;> rfl) | (simp [*, errW_none, errW_some] <;> rfl), by repeat (first | (with_reducible first | exact HB.out | apply below_alloc | apply pw_below_drewN | apply below_drew1) | exact HB.out)⟩
                      · rw [if_neg c20] at H
                        have c20b0 : (t450 == t447) = false := beq_eq_false_iff_ne.mpr c20
                        have c20b1 : (t450 != t447) = true := bne_iff_ne.mpr c20
                        obtain rfl := Option.some.inj H
                        have p452 : 0 ≤ (x8_2 : Int) := of_decide_eq_true (by first | (with_reducible assumption) | assumption)
                        have q452 : x8_2 < (t445.length : Int) := of_decide_eq_true (by first | (with_reducible assumption) | assumption)
                        obtain ⟨ad452, e452, hx452_0, hx452_1⟩ := at_T37 (Kd.R_reads' HO_3.out).2.2 x8_2 p452 q452
                        cases e452
                        replace p452 := eq_true p452
                        replace q452 := eq_true q452
                        go_wp2
                        go_ret
                        exact ⟨by first | rfl | (simp [errW_none, errW_some] <;> rfl) | (simp [*, errW_none, errW_some] <;> rfl), by repeat (first | (with_reducible first | exact HB.out | apply below_alloc | apply pw_below_drewN | apply below_drew1) | exact HB.out)⟩
                  · rw [if_neg c15] at H
                    have c15b0 : (((rd_T37 t445 x8_2).f0) == t446) = false := beq_eq_false_iff_ne.mpr c15
                    have c15b1 : (((rd_T37 t445 x8_2).f0) != t446) = true := bne_iff_ne.mpr c15
                    have H' := Aside0.mk H
                    clear H
                    have p452 : 0 ≤ (x8_2 : Int) := of_decide_eq_true (by first | (with_reducible assumption) | assumption)
                    have q452 : x8_2 < (t445.length : Int) := of_decide_eq_true (by first | (with_reducible assumption) | assumption)
                    obtain ⟨ad452, e452, hx452_0, hx452_1⟩ := at_T37 (Kd.R_reads' HO_3.out).2.2 x8_2 p452 q452
                    cases e452
                    replace p452 := eq_true p452
                    replace q452 := eq_true q452
                    go_wp2
                    go_roundg k2
                    case measure => have := HJ5.out; have := HK2.out; omega
                    case rel => exact ⟨(wrap64 (x8_2 + 1)), (by first | rfl | (simp; done) | (simp [*]; done)), H', ⟨by have := HJ5.out; have := HK2.out; omega⟩, ⟨by (with_reducible repeat (first | apply Kd.R_alloc | apply Kd.R_drewN | apply Kd.R_drew)); exact HO_3.out⟩, ⟨by repeat (first | (with_reducible first | exact HB.out | apply below_alloc | apply pw_below_drewN | apply below_drew1) | exact HB.out)⟩⟩
                · rw [if_neg c14] at H
                  exact absurd H (by simp)
              · rw [if_neg c13] at H
                have c13b0 : decide (x8_2 < (t445.length : Int)) = false := decide_eq_false c13
                clear c13
                obtain rfl := Option.some.inj H
                go_wp2
                go_ret
                exact ⟨by first | rfl | (simp [errW_none, errW_some] <;> rfl) | (simp [*, errW_none, errW_some] <;> rfl), by repeat (first | (with_reducible first | exact HB.out | apply below_alloc | apply pw_below_drewN | apply below_drew1) | exact HB.out)⟩
def laws_FnTermsEnd.Pure : Prop := ∀ (l0 : List Int), l0.length ≤ maxLen → l0.length * 1 ≤ 140737488351232 → (∀ x ∈ l0, (Lit.int .u8 x).wf = true) → ∃ k, laws_FnTermsEnd.f k l0 = some true
theorem laws_FnTermsEnd.walk (P : laws_FnTermsEnd.Pure) (a0 : Option Addr) (len0 cap0 : Nat) (z0 : List Int) (w : World) (w0 : (a0 = none ∧ len0 = 0 ∧ cap0 = 0 ∧ z0 = []) ∨ ∃ x, a0 = some x ∧ len0 ≤ cap0 ∧ cap0 ≤ maxLen ∧ z0.length = cap0 ∧ (∀ i, i < z0.length → w.cell? (x.add i) = some (.int .u8 (z0.getD i 0))) ∧ ∀ n ∈ z0, (Lit.int .u8 n).wf = true) (y0 : len0 * 1 ≤ 140737488351232) :
    Calls Try.prog 12 #[.slice a0 len0 cap0] w fun e w' => e = .returned (.bool true) ∧ Below w.heap.size w w' := by
  obtain ⟨l0, rfl, hr0, hm0, hw0, hc0⟩ := ReadsInt.ofRowC w0
  obtain ⟨k, h⟩ := P l0 hm0 y0 hw0
  refine (laws_FnTermsEnd.calls k _ _ l0 true w (Kd.C_of_reads (d := (0 : Int)) (h1 := fun _ => rfl) hr0) hc0 h).mono ?_
  rintro e w' ⟨rfl, hd⟩
  exact ⟨rfl, hd⟩
end Go.Proofs.Ytamncgpajkoiaaa.T
namespace Go.Proofs.Ytamncgpajkoiaaa.Q
set_option linter.unusedVariables false
set_option linter.unusedSimpArgs false
theorem pairwise_of_next {α : Type} {R : α → α → Prop} (tr : ∀ a b c, R a b → R b c → R a c) {l : List α} (h : ∀ j (h : j + 1 < l.length), R (l[j]'(by omega)) l[j + 1]) : l.Pairwise R := by
  rw [List.pairwise_iff_getElem]
  intro i j hi hj hij
  obtain ⟨d, rfl⟩ : ∃ d, j = i + 1 + d := ⟨j - i - 1, by omega⟩
  clear hij
  induction d with
  | zero => exact h i (by omega)
  | succ d ih => exact tr _ _ _ (ih (by omega)) (h (i + 1 + d) (by omega))
theorem next_of_pairwise {α : Type} {R : α → α → Prop} {l : List α} (h : l.Pairwise R) (j : Nat) (hj : j + 1 < l.length) : R (l[j]'(by omega)) l[j + 1] :=
  List.pairwise_iff_getElem.1 h j (j + 1) (by omega) hj (by omega)
end Go.Proofs.Ytamncgpajkoiaaa.Q
namespace Go.Proofs.Ytamncgpajkoiaaa.Q
open Go.RowKit Go.Proofs.YtamncgpajkoiaaaW.PrintWords
set_option linter.unusedVariables false
set_option linter.unusedSimpArgs false
theorem ev_succ {α : Type} {g : Nat → Option α} {r : α} (h : Ev (fun k => g (k + 1)) r) : Ev g r := Ev.step (f := fun k => g (k + 1)) (fun _ => rfl) h
theorem ev_of_all {α : Type} {g : Nat → Option α} {r : α} (h : ∀ k, g k = some r) : Ev g r := ⟨0, fun k _ => h k⟩
theorem ev_some {α : Type} (r : α) : Ev (fun _ => some r) r := ev_of_all fun _ => rfl
def Evs {α : Type} (g : Nat → Option α) (Q : α → Prop) : Prop := ∃ r, Ev g r ∧ Q r
theorem Evs.of {α : Type} {g : Nat → Option α} {Q : α → Prop} {r : α} (h : Ev g r) (hq : Q r) : Evs g Q := ⟨r, h, hq⟩
theorem Evs.done {α : Type} {Q : α → Prop} {r : α} (hq : Q r) : Evs (fun _ => some r) Q := ⟨r, ev_some r, hq⟩
theorem Evs.mono {α : Type} {g : Nat → Option α} {Q Q' : α → Prop} (h : Evs g Q) (hq : ∀ r, Q r → Q' r) : Evs g Q' := by
  obtain ⟨r, h1, h2⟩ := h
  exact ⟨r, h1, hq r h2⟩
theorem Evs.succ {α : Type} {g : Nat → Option α} {Q : α → Prop} (h : Evs (fun k => g (k + 1)) Q) : Evs g Q := by
  obtain ⟨r, h1, h2⟩ := h
  exact ⟨r, ev_succ h1, h2⟩
theorem Evs.bind {α β : Type} {g : Nat → Option α} {f : Nat → α → Option β} {Q : α → Prop} {R : β → Prop} (h : Evs g Q) (k : ∀ a, Q a → Evs (fun n => f n a) R) : Evs (fun n => (g n).bind (f n)) R := by
  obtain ⟨a, h1, h2⟩ := h
  obtain ⟨r, k1, k2⟩ := k a h2
  exact ⟨r, Ev.bind h1 k1, k2⟩
theorem bsome {α β : Type} (a : α) (f : α → Option β) : (some a).bind f = f a := Eq.trans (Option.bind_some a f) (Eq.refl _)
end Go.Proofs.Ytamncgpajkoiaaa.Q
namespace Go.Proofs.Ytamncgpajkoiaaa.Q
open Go.RowKit Go.Proofs.Ytamncgpajkoiaaa.T Go.Proofs.YtamncgpajkoiaaaW.PrintWords Go.Proofs.YtamncgpajkoiaaaW.PrintLast
set_option linter.unusedVariables false
set_option linter.unusedSimpArgs false
theorem wrap_id {x : Int} (h0 : -9223372036854775808 ≤ x) (h1 : x < 9223372036854775808) : wrap64 x = x := by unfold wrap64; omega
theorem tmod_range {x n : Int} (h : 0 ≤ x) (hn : 1 ≤ n) : 0 ≤ Int.tmod x n ∧ Int.tmod x n < n := by
  rw [Int.tmod_eq_emod_of_nonneg h]
  exact ⟨Int.emod_nonneg _ (by omega), Int.emod_lt_of_pos _ (by omega)⟩
theorem xor_nonneg {a b : Int} (h1 : 0 ≤ a) (h2 : a < 4611686018427387904) (h3 : 0 ≤ b) (h4 : b < 4611686018427387904) : 0 ≤ Go.bits .xor .i64 a b := by
  obtain ⟨A, rfl⟩ := Int.eq_ofNat_of_zero_le h1
  obtain ⟨B, rfl⟩ := Int.eq_ofNat_of_zero_le h3
  have hx : A ^^^ B < 2 ^ 62 := Nat.xor_lt_two_pow (by omega) (by omega)
  have e1 : (BitVec.ofInt 64 (A : Int)).toNat = A := by
    rw [BitVec.ofInt_natCast, BitVec.toNat_ofNat]; exact Nat.mod_eq_of_lt (by omega)
  have e2 : (BitVec.ofInt 64 (B : Int)).toNat = B := by
    rw [BitVec.ofInt_natCast, BitVec.toNat_ofNat]; exact Nat.mod_eq_of_lt (by omega)
  show 0 ≤ IntKind.i64.wrap ((BitVec.ofInt 64 (A : Int) ^^^ BitVec.ofInt 64 (B : Int)).toNat : Int)
  rw [BitVec.toNat_xor, e1, e2]
  simp only [IntKind.wrap, IntKind.bits, IntKind.signed]
  simp
  omega
def Bytes (b : List Int) : Prop := ∀ x ∈ b, 0 ≤ x ∧ x ≤ 255
theorem rd_bytes {b : List Int} (h : Bytes b) (i : Int) : 0 ≤ rd b i ∧ rd b i ≤ 255 := by
  unfold rd
  rw [List.getD_eq_getElem?_getD]
  cases e : b[i.toNat]? with
  | none => simp
  | some x => exact h x (List.mem_of_getElem? e)
theorem pick_ev (b : List Int) (p n : Int) (hb : Bytes b) (hl : b.length ≤ 2000) (h0 : 0 ≤ p) (h1 : p ≤ 1000000000) (hn : 1 ≤ n) :
    ∃ v, Ev (fun k => spec_l6Rd_pick.f k b p n) (v, p + 1) ∧ 0 ≤ v ∧ v < n := by
  have e1 : wrap64 (p + 1) = p + 1 := wrap_id (by omega) (by omega)
  have e2 : wrap64 (p + 1 - 1) = p := by rw [wrap_id (by omega) (by omega)]; omega
  by_cases hz : b.length = 0
  · refine ⟨0, ⟨1, fun k hk => ?_⟩, by omega, by omega⟩
    obtain ⟨k, rfl⟩ : ∃ m, k = m + 1 := ⟨k - 1, by omega⟩
    show spec_l6Rd_pick.f (k + 1) b p n = _
    unfold spec_l6Rd_pick.f
    rw [if_neg (by omega), e1]
    simp [spec_l6Rd_pick.j0, hz]
  · have hz' : (((b.length : Int) == 0) = true) = False := by simp; intro h; simp [h] at hz
    by_cases hlt : p < (b.length : Int)
    · obtain ⟨r0, r1⟩ := rd_bytes hb p
      have := tmod_range (x := rd b p) r0 hn
      refine ⟨Int.tmod (rd b p) n, ⟨1, fun k hk => ?_⟩, this.1, this.2⟩
      obtain ⟨k, rfl⟩ : ∃ m, k = m + 1 := ⟨k - 1, by omega⟩
      show spec_l6Rd_pick.f (k + 1) b p n = _
      unfold spec_l6Rd_pick.f
      rw [if_neg (by omega), e1]
      simp only [spec_l6Rd_pick.j0, e2, hz']
      rw [if_neg (by simp), if_pos hlt, if_pos h0, if_neg (by omega), wrap_id (by omega) (by omega)]
    · obtain ⟨q0, q1⟩ := tmod_range (x := p) (n := (b.length : Int)) h0 (by omega)
      obtain ⟨r0, r1⟩ := rd_bytes hb (Int.tmod p (b.length : Int))
      have f1 : wrap64 (p * 7) = p * 7 := wrap_id (by omega) (by omega)
      have f2 : wrap64 (p * 7 + 3) = p * 7 + 3 := wrap_id (by omega) (by omega)
      obtain ⟨q2, q3⟩ := tmod_range (x := p * 7 + 3) (n := (b.length : Int)) (by omega) (by omega)
      obtain ⟨r2, r3⟩ := rd_bytes hb (Int.tmod (p * 7 + 3) (b.length : Int))
      have d0 : 0 ≤ Int.tdiv p (b.length : Int) ∧ Int.tdiv p (b.length : Int) ≤ p := by
        rw [Int.tdiv_eq_ediv_of_nonneg h0]
        exact ⟨Int.ediv_nonneg h0 (by omega), Int.ediv_le_self _ h0⟩
      obtain ⟨x, hx⟩ : ∃ x, x = rd b (Int.tmod p (b.length : Int)) := ⟨_, rfl⟩
      obtain ⟨y, hy⟩ : ∃ y, y = rd b (Int.tmod (p * 7 + 3) (b.length : Int)) := ⟨_, rfl⟩
      obtain ⟨z, hz2⟩ : ∃ z, z = Int.tdiv p (b.length : Int) := ⟨_, rfl⟩
      obtain ⟨s, hs⟩ : ∃ s, s = x * 131 + y * 1117 + p * 29 + z * 53 := ⟨_, rfl⟩
      rw [← hx] at r0 r1
      rw [← hy] at r2 r3
      rw [← hz2] at d0
      have s0 : 0 ≤ s ∧ s < 4611686018427387904 := by omega
      have t0 : 0 ≤ Int.tdiv s 64 ∧ Int.tdiv s 64 ≤ s := by
        rw [Int.tdiv_eq_ediv_of_nonneg s0.1]
        exact ⟨Int.ediv_nonneg s0.1 (by omega), Int.ediv_le_self _ s0.1⟩
      have w1 : wrap64 x = x := wrap_id (by omega) (by omega)
      have w2 : wrap64 y = y := wrap_id (by omega) (by omega)
      have w3 : wrap64 z = z := wrap_id (by omega) (by omega)
      have w4 : wrap64 (x * 131) = x * 131 := wrap_id (by omega) (by omega)
      have w5 : wrap64 (y * 1117) = y * 1117 := wrap_id (by omega) (by omega)
      have w6 : wrap64 (p * 29) = p * 29 := wrap_id (by omega) (by omega)
      have w7 : wrap64 (z * 53) = z * 53 := wrap_id (by omega) (by omega)
      have w8 : wrap64 (x * 131 + y * 1117) = x * 131 + y * 1117 := wrap_id (by omega) (by omega)
      have w9 : wrap64 (x * 131 + y * 1117 + p * 29) = x * 131 + y * 1117 + p * 29 := wrap_id (by omega) (by omega)
      have wa : wrap64 (x * 131 + y * 1117 + p * 29 + z * 53) = s := by rw [hs]; exact wrap_id (by omega) (by omega)
      have wb : wrap64 (Int.tdiv s 64) = Int.tdiv s 64 := wrap_id (by omega) (by omega)
      have := tmod_range (x := Go.bits .xor .i64 s (Int.tdiv s 64)) (n := n) (xor_nonneg s0.1 s0.2 t0.1 (by omega)) hn
      refine ⟨_, ⟨1, fun k hk => ?_⟩, this.1, this.2⟩
      obtain ⟨k, rfl⟩ : ∃ m, k = m + 1 := ⟨k - 1, by omega⟩
      show spec_l6Rd_pick.f (k + 1) b p n = _
      unfold spec_l6Rd_pick.f
      rw [if_neg (by omega), e1]
      simp only [spec_l6Rd_pick.j0, e2, hz', f1, f2]
      rw [if_neg (by simp), if_neg hlt, if_neg (by omega), if_pos q0, if_pos q1, if_pos q2, if_pos q3, if_neg (by omega), ← hx, ← hy, ← hz2, w1, w2, w3, w4, w5, w6, w7, w8, w9, wa, wb]
theorem pick_evs (b : List Int) (p n : Int) (hb : Bytes b) (hl : b.length ≤ 2000) (h0 : 0 ≤ p) (h1 : p ≤ 1000000000) (hn : 1 ≤ n) :
    Evs (fun k => spec_l6Rd_pick.f k b p n) (fun r => 0 ≤ r.1 ∧ r.1 < n ∧ r.2 = p + 1) := by
  obtain ⟨v, h, v0, v1⟩ := pick_ev b p n hb hl h0 h1 hn
  exact ⟨_, h, v0, v1, rfl⟩
end Go.Proofs.Ytamncgpajkoiaaa.Q
namespace Go.Proofs.Ytamncgpajkoiaaa.Q
open Go.RowKit Go.Proofs.Ytamncgpajkoiaaa.T Go.Proofs.YtamncgpajkoiaaaW.PrintWords Go.Proofs.YtamncgpajkoiaaaW.PrintLast
set_option linter.unusedVariables false
set_option linter.unusedSimpArgs false
abbrev Tm := S37
abbrev rt (l : List Tm) (i : Int) : Tm := rd_T37 l i
theorem rt_nat (l : List Tm) (j : Nat) (h : j < l.length) : rt l (j : Int) = l[j] := by
  unfold rt rd_T37
  rw [Int.toNat_natCast, List.getD_eq_getElem?_getD, List.getElem?_eq_getElem h]
  rfl
theorem bytes_of {l : List Int} (h : ∀ x ∈ l, (Lit.int .u8 x).wf = true) : Bytes l := by
  intro x hx
  have := h x hx
  simp [Lit.wf, IntKind.min, IntKind.max, IntKind.signed, IntKind.bits] at this
  omega
theorem open_ev (l : List Int) (h : Bytes l) : ∃ b, spec_l6Open.f l = some (b, 0) ∧ Bytes b ∧ b.length ≤ 2000 := by
  unfold spec_l6Open.f
  by_cases hc : (l.length : Int) > 2000
  · rw [if_pos hc, if_pos (by omega)]
    exact ⟨_, rfl, fun x hx => h x (List.mem_of_mem_take hx), by rw [List.length_take]; omega⟩
  · rw [if_neg hc]
    exact ⟨_, rfl, h, by omega⟩
theorem terms_exit (bs : List Int) (hb : Bytes bs) (hl : bs.length ≤ 2000) (n : Int) (l : List Tm) (a b i p : Int) (hi : (l.length : Int) = i) (hlt : ¬ i < n) (h0 : 0 ≤ p) (h1 : p + 1 ≤ 900000000) (hi9 : i ≤ 9) :
    ∃ r p', Ev (fun k => spec_l92Terms.l0 k l n a b i bs p) (r, p') ∧ r.length ≤ 9 ∧ p ≤ p' ∧ p' ≤ p + 1 := by
  by_cases h2 : n > 1
  · obtain ⟨v, hv, v0, v1⟩ := pick_ev bs p 24 hb hl h0 (by omega) (by omega)
    by_cases hv0 : v = 0
    · refine ⟨?r, p + 1, ev_succ ?h, ?c, by omega, by omega⟩
      case h =>
        simp only [spec_l92Terms.l0, if_neg hlt, if_pos h2]
        refine Ev.bind hv ?_
        simp only [if_pos hv0, if_pos (show 1 < (l.length : Int) by omega)]
        exact ev_some _
      case c => rw [List.length_set]; omega
    · refine ⟨l, p + 1, ev_succ ?h, by omega, by omega, by omega⟩
      simp only [spec_l92Terms.l0, if_neg hlt, if_pos h2]
      refine Ev.bind hv ?_
      simp only [if_neg hv0]
      exact ev_some _
  · refine ⟨l, p, ev_succ ?_, by omega, by omega, by omega⟩
    simp only [spec_l92Terms.l0, if_neg hlt, if_neg h2]
    exact ev_some _
theorem terms_loop (bs : List Int) (hb : Bytes bs) (hl : bs.length ≤ 2000) (n : Int) (hn : n ≤ 9) : ∀ (d : Nat) (l : List Tm) (a b i p : Int), (l.length : Int) = i → n - i ≤ d → 0 ≤ p → p + 2 * d + 1 ≤ 900000000 → i ≤ 9 →
    ∃ r p', Ev (fun k => spec_l92Terms.l0 k l n a b i bs p) (r, p') ∧ r.length ≤ 9 ∧ p ≤ p' ∧ p' ≤ p + 2 * d + 1 := by
  intro d
  induction d with
  | zero =>
    intro l a b i p hi hd h0 h1 hi9
    obtain ⟨r, p', h, h2, h3, h4⟩ := terms_exit bs hb hl n l a b i p hi (by omega) h0 (by omega) hi9
    exact ⟨r, p', h, h2, h3, by omega⟩
  | succ d ih =>
    intro l a b i p hi hd h0 h1 hi9
    by_cases hlt : i < n
    · obtain ⟨v, hv, v0, v1⟩ := pick_ev bs p 3 hb hl h0 (by omega) (by omega)
      obtain ⟨u, hu, u0, u1⟩ := pick_ev bs (p + 1) 8 hb hl (by omega) (by omega) (by omega)
      obtain ⟨r, p', hr, h3, h4, h5⟩ := ih (l ++ [⟨a, b⟩]) (wrap64 ((wrap64 (a + 1)) + (wrap64 (Int.tdiv v 2)))) (wrap64 ((wrap64 (b + 1)) + u)) (i + 1) (p + 1 + 1) (by simp; omega) (by omega) (by omega) (by omega) (by omega)
      refine ⟨r, p', ev_succ ?_, h3, by omega, by omega⟩
      simp only [spec_l92Terms.l0, if_pos hlt, if_pos (show l.length < 8796093022208 by omega)]
      refine Ev.bind hv ?_
      refine Ev.bind hu ?_
      rw [show wrap64 (i + 1) = i + 1 from wrap_id (by omega) (by omega)]
      exact hr
    · obtain ⟨r, p', h, h2, h3, h4⟩ := terms_exit bs hb hl n l a b i p hi hlt h0 (by omega) hi9
      exact ⟨r, p', h, h2, h3, by omega⟩
theorem terms_ev (bs : List Int) (hb : Bytes bs) (hl : bs.length ≤ 2000) (p : Int) (h0 : 0 ≤ p) (h1 : p ≤ 1000000) :
    ∃ r p', Ev (fun k => spec_l92Terms.f k bs p) (r, p') ∧ r.length ≤ 9 ∧ 0 ≤ p' ∧ p' ≤ p + 30 := by
  obtain ⟨v, hv, v0, v1⟩ := pick_ev bs p 6 hb hl h0 (by omega) (by omega)
  obtain ⟨u, hu, u0, u1⟩ := pick_ev bs (p + 1) 20 hb hl (by omega) (by omega) (by omega)
  by_cases hu0 : u = 0
  · obtain ⟨x, hx, x0, x1⟩ := pick_ev bs (p + 1 + 1) 2 hb hl (by omega) (by omega) (by omega)
    obtain ⟨y, hy, y0, y1⟩ := pick_ev bs (p + 1 + 1 + 1) 3 hb hl (by omega) (by omega) (by omega)
    obtain ⟨r, p', hr, h3, h4, h5⟩ := terms_loop bs hb hl (8 + x) (by omega) 9 [] y 0 0 (p + 1 + 1 + 1 + 1) (by simp) (by omega) (by omega) (by omega) (by omega)
    refine ⟨r, p', ?_, h3, by omega, by omega⟩
    unfold spec_l92Terms.f
    simp only [bsome]
    refine Ev.bind hv ?_
    refine Ev.bind hu ?_
    simp only [if_pos hu0]
    refine Ev.bind hx ?_
    rw [show wrap64 (8 + x) = 8 + x from wrap_id (by omega) (by omega)]
    refine ev_succ ?_
    simp only [spec_l92Terms.j0]
    exact Ev.bind hy hr
  · obtain ⟨y, hy, y0, y1⟩ := pick_ev bs (p + 1 + 1) 3 hb hl (by omega) (by omega) (by omega)
    obtain ⟨r, p', hr, h3, h4, h5⟩ := terms_loop bs hb hl v (by omega) 9 [] y 0 0 (p + 1 + 1 + 1) (by simp) (by omega) (by omega) (by omega) (by omega)
    refine ⟨r, p', ?_, h3, by omega, by omega⟩
    unfold spec_l92Terms.f
    simp only [bsome]
    refine Ev.bind hv ?_
    refine Ev.bind hu ?_
    simp only [if_neg hu0]
    refine ev_succ ?_
    simp only [spec_l92Terms.j0]
    exact Ev.bind hy hr
def okT (t : Tm) : Prop := 0 ≤ t.f0 ∧ t.f0 ≤ 999 ∧ 0 ≤ t.f1 ∧ t.f1 ≤ 99999
instance (t : Tm) : Decidable (okT t) := by unfold okT; infer_instance
def ltT (a b : Tm) : Prop := a.f0 < b.f0 ∧ a.f1 < b.f1
instance (a b : Tm) : Decidable (ltT a b) := by unfold ltT; infer_instance
def VF (l : List Tm) (i : Nat) : Prop := ∀ j, i ≤ j → j < l.length → okT (rt l j) ∧ (0 < j → ltT (rt l ((j : Int) - 1)) (rt l j))
def VT (l : List Tm) : Prop := l.length ≤ 8 ∧ VF l 0
theorem VF_end {l : List Tm} {i : Nat} (h : l.length ≤ i) : VF l i := fun j h1 h2 => by omega
theorem VF_step {l : List Tm} {i : Nat} (h : i < l.length) : VF l i ↔ (okT (rt l i) ∧ (0 < i → ltT (rt l ((i : Int) - 1)) (rt l i))) ∧ VF l (i + 1) := by
  constructor
  · intro hv
    exact ⟨hv i (Nat.le_refl _) h, fun j h1 h2 => hv j (by omega) h2⟩
  · rintro ⟨h1, h2⟩ j h3 h4
    by_cases e : j = i
    · subst e; exact h1
    · exact h2 j (by omega) h4
theorem impl_within_eq (a b c : Int) : impl_within.f a b c = some (decide (b ≤ a ∧ a ≤ c)) := by
  unfold impl_within.f
  by_cases h : a ≥ b
  · rw [if_pos h]
    have : (b ≤ a ∧ a ≤ c) ↔ a ≤ c := ⟨fun h => h.2, fun h' => ⟨h, h'⟩⟩
    simp [this]
  · rw [if_neg h]
    have : ¬ (b ≤ a ∧ a ≤ c) := fun h' => h h'.1
    simp [this]
theorem spec_l6In_eq (a b c : Int) : spec_l6In.f a b c = some (decide (b ≤ a ∧ a ≤ c)) := by
  unfold spec_l6In.f
  by_cases h : a ≥ b
  · rw [if_pos h]
    have : (b ≤ a ∧ a ≤ c) ↔ a ≤ c := ⟨fun h => h.2, fun h' => ⟨h, h'⟩⟩
    simp [this]
  · rw [if_neg h]
    have : ¬ (b ≤ a ∧ a ≤ c) := fun h' => h h'.1
    simp [this]
theorem implValid_loop (l : List Tm) (hl : l.length ≤ 1000000000000) : ∀ (d i : Nat), l.length - i = d → i ≤ l.length → ∃ b, Ev (fun k => impl_TermsValid.l0 k l l (l.length : Int) (i : Int)) b ∧ (b = true ↔ VF l i) := by
  intro d
  induction d with
  | zero =>
    intro i hd hi
    refine ⟨true, ev_succ ?_, by simp; exact VF_end (by omega)⟩
    simp only [impl_TermsValid.l0, if_neg (show ¬ (i : Int) < (l.length : Int) by omega)]
    exact ev_some _
  | succ d ih =>
    intro i hd hi
    have hlt : (i : Int) < (l.length : Int) := by omega
    obtain ⟨b, hb, hb2⟩ := ih (i + 1) (by omega) (by omega)
    have e1 : wrap64 ((i : Int) + 1) = ((i + 1 : Nat) : Int) := by rw [wrap_id (by omega) (by omega)]; omega
    rw [VF_step (show i < l.length by omega)]
    by_cases k1 : 0 ≤ (rt l i).f0 ∧ (rt l i).f0 ≤ 999
    · by_cases k2 : 0 ≤ (rt l i).f1 ∧ (rt l i).f1 ≤ 99999
      · have hok : okT (rt l i) := ⟨k1.1, k1.2, k2.1, k2.2⟩
        by_cases h0 : 0 < i
        · have e2 : wrap64 ((i : Int) - 1) = (i : Int) - 1 := wrap_id (by omega) (by omega)
          by_cases k3 : (rt l ((i : Int) - 1)).f0 ≥ (rt l i).f0
          · refine ⟨false, ev_succ ?_, ?_⟩
            · simp only [impl_TermsValid.l0, if_pos hlt, if_pos (show (0 : Int) ≤ i by omega), impl_within_eq, bsome, decide_eq_true_eq, if_pos k1, decide_eq_true k2, Bool.not_true]
              refine ev_succ ?_
              simp only [impl_TermsValid.j1, if_neg (show ¬ (false = true) by decide), if_pos (show (i : Int) > 0 by omega), e2, if_pos (show 0 ≤ (i : Int) - 1 by omega), if_pos (show (i : Int) - 1 < (l.length : Int) by omega), if_pos k3]
              exact ev_some _
            · simp only [Bool.false_eq_true, false_iff]
              rintro ⟨⟨_, h3⟩, _⟩
              have := (h3 h0).1
              omega
          · by_cases k4 : (rt l ((i : Int) - 1)).f1 ≥ (rt l i).f1
            · refine ⟨false, ev_succ ?_, ?_⟩
              · simp only [impl_TermsValid.l0, if_pos hlt, if_pos (show (0 : Int) ≤ i by omega), impl_within_eq, bsome, decide_eq_true_eq, if_pos k1, decide_eq_true k2, Bool.not_true]
                refine ev_succ ?_
                simp only [impl_TermsValid.j1, if_neg (show ¬ (false = true) by decide), if_pos (show (i : Int) > 0 by omega), e2, if_pos (show 0 ≤ (i : Int) - 1 by omega), if_pos (show (i : Int) - 1 < (l.length : Int) by omega), if_neg k3, if_pos k4]
                exact ev_some _
              · simp only [Bool.false_eq_true, false_iff]
                rintro ⟨⟨_, h3⟩, _⟩
                have := (h3 h0).2
                omega
            · refine ⟨b, ev_succ ?_, ?_⟩
              · simp only [impl_TermsValid.l0, if_pos hlt, if_pos (show (0 : Int) ≤ i by omega), impl_within_eq, bsome, decide_eq_true_eq, if_pos k1, decide_eq_true k2, Bool.not_true]
                refine ev_succ ?_
                simp only [impl_TermsValid.j1, if_neg (show ¬ (false = true) by decide), if_pos (show (i : Int) > 0 by omega), e2, if_pos (show 0 ≤ (i : Int) - 1 by omega), if_pos (show (i : Int) - 1 < (l.length : Int) by omega), if_neg k3, if_neg k4, e1]
                exact hb
              · rw [hb2]
                exact ⟨fun h => ⟨⟨hok, fun _ => ⟨by omega, by omega⟩⟩, h⟩, fun h => h.2⟩
        · refine ⟨b, ev_succ ?_, ?_⟩
          · simp only [impl_TermsValid.l0, if_pos hlt, if_pos (show (0 : Int) ≤ i by omega), impl_within_eq, bsome, decide_eq_true_eq, if_pos k1, decide_eq_true k2, Bool.not_true]
            refine ev_succ ?_
            simp only [impl_TermsValid.j1, if_neg (show ¬ (false = true) by decide), if_neg (show ¬ (i : Int) > 0 by omega), e1]
            exact hb
          · rw [hb2]
            exact ⟨fun h => ⟨⟨hok, fun h' => absurd h' h0⟩, h⟩, fun h => h.2⟩
      · refine ⟨false, ev_succ ?_, ?_⟩
        · simp only [impl_TermsValid.l0, if_pos hlt, if_pos (show (0 : Int) ≤ i by omega), impl_within_eq, bsome, decide_eq_true_eq, if_pos k1, decide_eq_false k2, Bool.not_false]
          refine ev_succ ?_
          simp only [impl_TermsValid.j1, if_true]
          exact ev_some _
        · simp only [Bool.false_eq_true, false_iff]
          rintro ⟨⟨h3, _⟩, _⟩
          exact k2 ⟨h3.2.2.1, h3.2.2.2⟩
    · refine ⟨false, ev_succ ?_, ?_⟩
      · simp only [impl_TermsValid.l0, if_pos hlt, if_pos (show (0 : Int) ≤ i by omega), impl_within_eq, bsome, decide_eq_true_eq, if_neg k1]
        refine ev_succ ?_
        simp only [impl_TermsValid.j1, if_true]
        exact ev_some _
      · simp only [Bool.false_eq_true, false_iff]
        rintro ⟨⟨h3, _⟩, _⟩
        exact k1 ⟨h3.1, h3.2.1⟩
theorem implValid_ev (l : List Tm) (hl : l.length ≤ 1000000000000) : ∃ b, Ev (fun k => impl_TermsValid.f k l) b ∧ (b = true ↔ VT l) := by
  unfold impl_TermsValid.f
  by_cases h : (l.length : Int) > 8
  · refine ⟨false, ?_, ?_⟩
    · simp only [if_pos h]; exact ev_some _
    · simp only [Bool.false_eq_true, false_iff]
      rintro ⟨h2, _⟩
      omega
  · obtain ⟨b, hb, hb2⟩ := implValid_loop l hl l.length 0 (by omega) (by omega)
    refine ⟨b, ?_, ?_⟩
    · simp only [if_neg h]; exact hb
    · rw [hb2]
      exact ⟨fun h' => ⟨by omega, h'⟩, fun h' => h'.2⟩
theorem specValid_loop (l : List Tm) (hl : l.length ≤ 1000000000000) : ∀ (d i : Nat), l.length - i = d → i ≤ l.length → ∃ b, Ev (fun k => spec_TermsValid.l0 k l (i : Int)) b ∧ (b = true ↔ (l.length ≤ 8 ∧ VF l i)) := by
  intro d
  induction d with
  | zero =>
    intro i hd hi
    refine ⟨decide ((l.length : Int) ≤ 8), ev_succ ?_, ?_⟩
    · simp only [spec_TermsValid.l0, if_neg (show ¬ (i : Int) < (l.length : Int) by omega)]
      exact ev_some _
    · simp only [decide_eq_true_eq]
      exact ⟨fun h => ⟨by omega, VF_end (by omega)⟩, fun h => by have := h.1; omega⟩
  | succ d ih =>
    intro i hd hi
    have hlt : (i : Int) < (l.length : Int) := by omega
    obtain ⟨b, hb, hb2⟩ := ih (i + 1) (by omega) (by omega)
    have e1 : wrap64 ((i : Int) + 1) = ((i + 1 : Nat) : Int) := by rw [wrap_id (by omega) (by omega)]; omega
    rw [VF_step (show i < l.length by omega)]
    by_cases k1 : 0 ≤ (rt l i).f0 ∧ (rt l i).f0 ≤ 999
    · by_cases k2 : 0 ≤ (rt l i).f1 ∧ (rt l i).f1 ≤ 99999
      · have hok : okT (rt l i) := ⟨k1.1, k1.2, k2.1, k2.2⟩
        by_cases h0 : 0 < i
        · have e2 : wrap64 ((i : Int) - 1) = (i : Int) - 1 := wrap_id (by omega) (by omega)
          by_cases k3 : (rt l ((i : Int) - 1)).f0 ≥ (rt l i).f0
          · refine ⟨false, ev_succ ?_, ?_⟩
            · simp only [spec_TermsValid.l0, if_pos hlt, if_pos (show (0 : Int) ≤ i by omega), spec_l6In_eq, bsome, decide_eq_true_eq, if_pos k1, if_pos k2, if_pos (show (i : Int) > 0 by omega), e2, if_pos (show 0 ≤ (i : Int) - 1 by omega), if_pos (show (i : Int) - 1 < (l.length : Int) by omega), if_pos k3]
              exact ev_some _
            · simp only [Bool.false_eq_true, false_iff]
              rintro ⟨_, ⟨_, h3⟩, _⟩
              have := (h3 h0).1
              omega
          · by_cases k4 : (rt l ((i : Int) - 1)).f1 ≥ (rt l i).f1
            · refine ⟨false, ev_succ ?_, ?_⟩
              · simp only [spec_TermsValid.l0, if_pos hlt, if_pos (show (0 : Int) ≤ i by omega), spec_l6In_eq, bsome, decide_eq_true_eq, if_pos k1, if_pos k2, if_pos (show (i : Int) > 0 by omega), e2, if_pos (show 0 ≤ (i : Int) - 1 by omega), if_pos (show (i : Int) - 1 < (l.length : Int) by omega), if_neg k3, if_pos k4]
                exact ev_some _
              · simp only [Bool.false_eq_true, false_iff]
                rintro ⟨_, ⟨_, h3⟩, _⟩
                have := (h3 h0).2
                omega
            · refine ⟨b, ev_succ ?_, ?_⟩
              · simp only [spec_TermsValid.l0, if_pos hlt, if_pos (show (0 : Int) ≤ i by omega), spec_l6In_eq, bsome, decide_eq_true_eq, if_pos k1, if_pos k2, if_pos (show (i : Int) > 0 by omega), e2, if_pos (show 0 ≤ (i : Int) - 1 by omega), if_pos (show (i : Int) - 1 < (l.length : Int) by omega), if_neg k3, if_neg k4, e1]
                exact hb
              · rw [hb2]
                exact ⟨fun h => ⟨h.1, ⟨hok, fun _ => ⟨by omega, by omega⟩⟩, h.2⟩, fun h => ⟨h.1, h.2.2⟩⟩
        · refine ⟨b, ev_succ ?_, ?_⟩
          · simp only [spec_TermsValid.l0, if_pos hlt, if_pos (show (0 : Int) ≤ i by omega), spec_l6In_eq, bsome, decide_eq_true_eq, if_pos k1, if_pos k2, if_neg (show ¬ (i : Int) > 0 by omega), e1]
            exact hb
          · rw [hb2]
            exact ⟨fun h => ⟨h.1, ⟨hok, fun h' => absurd h' h0⟩, h.2⟩, fun h => ⟨h.1, h.2.2⟩⟩
      · refine ⟨false, ev_succ ?_, ?_⟩
        · simp only [spec_TermsValid.l0, if_pos hlt, if_pos (show (0 : Int) ≤ i by omega), spec_l6In_eq, bsome, decide_eq_true_eq, if_pos k1, if_neg k2]
          exact ev_some _
        · simp only [Bool.false_eq_true, false_iff]
          rintro ⟨_, ⟨h3, _⟩, _⟩
          exact k2 ⟨h3.2.2.1, h3.2.2.2⟩
    · refine ⟨false, ev_succ ?_, ?_⟩
      · simp only [spec_TermsValid.l0, if_pos hlt, if_pos (show (0 : Int) ≤ i by omega), spec_l6In_eq, bsome, decide_eq_true_eq, if_neg k1]
        exact ev_some _
      · simp only [Bool.false_eq_true, false_iff]
        rintro ⟨_, ⟨h3, _⟩, _⟩
        exact k1 ⟨h3.1, h3.2.1⟩
theorem specValid_ev (l : List Tm) (hl : l.length ≤ 1000000000000) : ∃ b, Ev (fun k => spec_TermsValid.f k l) b ∧ (b = true ↔ VT l) := by
  unfold spec_TermsValid.f
  exact specValid_loop l hl l.length 0 (by omega) (by omega)
open Classical in
noncomputable def vt (l : List Tm) : Bool := decide (VT l)
theorem vt_iff (l : List Tm) : vt l = true ↔ VT l := by unfold vt; simp
theorem vt_of {b : Bool} {l : List Tm} (h : b = true ↔ VT l) : b = vt l := by
  rw [Bool.eq_iff_iff, h, vt_iff]
theorem implValid (l : List Tm) (hl : l.length ≤ 1000000000000) : Ev (fun k => impl_TermsValid.f k l) (vt l) := by
  obtain ⟨b, hb, h⟩ := implValid_ev l hl
  rw [← vt_of h]; exact hb
theorem specValid (l : List Tm) (hl : l.length ≤ 1000000000000) : Ev (fun k => spec_TermsValid.f k l) (vt l) := by
  obtain ⟨b, hb, h⟩ := specValid_ev l hl
  rw [← vt_of h]; exact hb
end Go.Proofs.Ytamncgpajkoiaaa.Q
namespace Go.Proofs.Ytamncgpajkoiaaa.Q
open Go.RowKit Go.Proofs.Ytamncgpajkoiaaa.T Go.Proofs.YtamncgpajkoiaaaW.PrintWords Go.Proofs.YtamncgpajkoiaaaW.PrintLast
set_option linter.unusedVariables false
set_option linter.unusedSimpArgs false
theorem ltT_trans {a b c : Tm} (h : ltT a b) (h' : ltT b c) : ltT a c := ⟨Int.lt_trans h.1 h'.1, Int.lt_trans h.2 h'.2⟩
theorem VT_iff (l : List Tm) : VT l ↔ l.length ≤ 8 ∧ (∀ t ∈ l, okT t) ∧ l.Pairwise ltT := by
  constructor
  · rintro ⟨h8, hv⟩
    refine ⟨h8, ?_, pairwise_of_next (R := ltT) (fun _ _ _ => ltT_trans) ?_⟩
    · intro t ht
      obtain ⟨j, hj, rfl⟩ := List.getElem_of_mem ht
      have := (hv j (Nat.zero_le _) hj).1
      rwa [rt_nat l j hj] at this
    · intro j hj
      have := (hv (j + 1) (Nat.zero_le _) hj).2 (by omega)
      rw [rt_nat l (j + 1) hj] at this
      rw [show ((j + 1 : Nat) : Int) - 1 = (j : Int) by omega, rt_nat l j (by omega)] at this
      exact this
  · rintro ⟨h8, hok, hp⟩
    refine ⟨h8, fun j _ hj => ⟨?_, fun h0 => ?_⟩⟩
    · rw [rt_nat l j hj]
      exact hok _ (List.getElem_mem hj)
    · obtain ⟨i, rfl⟩ : ∃ i, j = i + 1 := ⟨j - 1, by omega⟩
      rw [rt_nat l (i + 1) hj, show ((i + 1 : Nat) : Int) - 1 = (i : Int) by omega, rt_nat l i (by omega)]
      exact next_of_pairwise hp i hj
end Go.Proofs.Ytamncgpajkoiaaa.Q
namespace Go.Proofs.Ytamncgpajkoiaaa.Q
open Go.RowKit Go.Proofs.Ytamncgpajkoiaaa.T Go.Proofs.YtamncgpajkoiaaaW.PrintWords Go.Proofs.YtamncgpajkoiaaaW.PrintLast
theorem Tm_ext {a b : Tm} (h0 : a.f0 = b.f0) (h1 : a.f1 = b.f1) : a = b := by
  cases a
  cases b
  simp at h0 h1
  rw [h0, h1]
instance : DecidableEq Tm := fun a b => decidable_of_iff (a.f0 = b.f0 ∧ a.f1 = b.f1) ⟨fun h => Tm_ext h.1 h.2, fun h => by rw [h]; exact ⟨rfl, rfl⟩⟩
end Go.Proofs.Ytamncgpajkoiaaa.Q
namespace Go.Proofs.Ytamncgpajkoiaaa.Q
open Go.RowKit Go.Proofs.Ytamncgpajkoiaaa.T Go.Proofs.YtamncgpajkoiaaaW.PrintWords Go.Proofs.YtamncgpajkoiaaaW.PrintLast
set_option linter.unusedVariables false
set_option linter.unusedSimpArgs false
def lastTm (l : List Tm) : Tm := rt l ((l.length : Int) - 1)
open Classical in
noncomputable def ve (l : List Tm) (e : Int) : Bool := vt l && decide (0 ≤ e ∧ e ≤ 100000 ∧ (l.length = 0 ∨ (lastTm l).f1 < e))
theorem implEndValid (l : List Tm) (e : Int) (hl : l.length ≤ 1000000000000) : Ev (fun k => impl_endValid.f k l e) (ve l e) := by
  unfold impl_endValid.f ve
  refine Ev.bind (implValid l hl) ?_
  by_cases hv : vt l = true
  · have e2 : wrap64 ((l.length : Int) - 1) = (l.length : Int) - 1 := wrap_id (by omega) (by omega)
    simp only [if_pos hv, impl_within_eq, bsome, decide_eq_true_eq, hv, Bool.true_and]
    by_cases h1 : 0 ≤ e ∧ e ≤ 100000
    · simp only [if_pos h1]
      by_cases h0 : l.length = 0
      · simp only [if_pos (show (l.length : Int) = 0 by omega)]
        rw [decide_eq_true ⟨h1.1, h1.2, .inl h0⟩]
        exact ev_some _
      · simp only [if_neg (show ¬ (l.length : Int) = 0 by omega), e2, if_pos (show 0 ≤ (l.length : Int) - 1 by omega), if_pos (show (l.length : Int) - 1 < (l.length : Int) by omega)]
        have : decide (e > (rt l ((l.length : Int) - 1)).f1) = decide (0 ≤ e ∧ e ≤ 100000 ∧ (l.length = 0 ∨ (lastTm l).f1 < e)) := by
          rw [decide_eq_decide]
          exact ⟨fun h => ⟨h1.1, h1.2, .inr h⟩, fun h => h.2.2.resolve_left h0⟩
        rw [← this]
        exact ev_some _
    · simp only [if_neg h1]
      rw [decide_eq_false (fun h => h1 ⟨h.1, h.2.1⟩)]
      exact ev_some _
  · have hv' : vt l = false := by simpa using hv
    simp only [if_neg hv, hv', Bool.false_and]
    exact ev_some _
theorem specOk (l : List Tm) (e : Int) (hl : l.length ≤ 1000000000000) : Ev (fun k => spec_l23Ok.f k l e) (ve l e) := by
  unfold spec_l23Ok.f ve
  refine Ev.bind (specValid l hl) ?_
  by_cases hv : vt l = true
  · have e2 : wrap64 ((l.length : Int) - 1) = (l.length : Int) - 1 := wrap_id (by omega) (by omega)
    simp only [if_pos hv, spec_l6In_eq, bsome, decide_eq_true_eq, hv, Bool.true_and]
    by_cases h1 : 0 ≤ e ∧ e ≤ 100000
    · simp only [if_pos h1]
      by_cases h0 : l.length = 0
      · simp only [if_pos (show (l.length : Int) = 0 by omega)]
        rw [decide_eq_true ⟨h1.1, h1.2, .inl h0⟩]
        exact ev_some _
      · simp only [if_neg (show ¬ (l.length : Int) = 0 by omega), e2, if_pos (show 0 ≤ (l.length : Int) - 1 by omega), if_pos (show (l.length : Int) - 1 < (l.length : Int) by omega)]
        have : decide ((rt l ((l.length : Int) - 1)).f1 < e) = decide (0 ≤ e ∧ e ≤ 100000 ∧ (l.length = 0 ∨ (lastTm l).f1 < e)) := by
          rw [decide_eq_decide]
          exact ⟨fun h => ⟨h1.1, h1.2, .inr h⟩, fun h => h.2.2.resolve_left h0⟩
        rw [← this]
        exact ev_some _
    · simp only [if_neg h1]
      rw [decide_eq_false (fun h => h1 ⟨h.1, h.2.1⟩)]
      exact ev_some _
  · have hv' : vt l = false := by simpa using hv
    simp only [if_neg hv, hv', Bool.false_and]
    exact ev_some _
theorem ve_vt {l : List Tm} {e : Int} (h : ve l e = true) : VT l ∧ 0 ≤ e ∧ e ≤ 100000 ∧ (l.length = 0 ∨ (lastTm l).f1 < e) := by
  unfold ve at h
  rw [Bool.and_eq_true, vt_iff] at h
  exact ⟨h.1, by simpa using h.2⟩
def atT (l : List Tm) (x : Int) : Int := impl_findTerm l x
theorem atT_cases (l : List Tm) (x : Int) : (atT l x = -1 ∧ ∀ j, j < l.length → (rt l j).f0 ≠ x) ∨ ∃ i : Nat, i < l.length ∧ atT l x = i ∧ (rt l i).f0 = x ∧ ∀ j, j < i → (rt l j).f0 ≠ x := by
  unfold atT impl_findTerm
  cases h : l.findIdx? (fun t => t.f0 == x) with
  | none =>
    refine .inl ⟨rfl, fun j hj => ?_⟩
    rw [List.findIdx?_eq_none_iff] at h
    have := h l[j] (List.getElem_mem hj)
    rw [rt_nat l j hj]
    simpa using this
  | some i =>
    rw [List.findIdx?_eq_some_iff_getElem] at h
    obtain ⟨hi, h1, h2⟩ := h
    refine .inr ⟨i, hi, rfl, ?_, fun j hj => ?_⟩
    · rw [rt_nat l i hi]; simpa using h1
    · rw [rt_nat l j (by omega)]
      have := h2 j hj
      simpa using this
theorem specAt_loop (l : List Tm) (x : Int) (hl : l.length ≤ 1000000000000) : ∀ (d i : Nat), l.length - i = d → i ≤ l.length → (∀ j, j < i → (rt l j).f0 ≠ x) → Ev (fun k => spec_l23At.l0 k l x (i : Int)) (atT l x) := by
  intro d
  induction d with
  | zero =>
    intro i hd hi hn
    refine ev_succ ?_
    simp only [spec_l23At.l0, if_neg (show ¬ (i : Int) < (l.length : Int) by omega)]
    rcases atT_cases l x with ⟨h, _⟩ | ⟨j, hj, h, h1, _⟩
    · rw [h]; exact ev_some _
    · exact absurd h1 (hn j (by omega))
  | succ d ih =>
    intro i hd hi hn
    have e1 : wrap64 ((i : Int) + 1) = ((i + 1 : Nat) : Int) := by rw [wrap_id (by omega) (by omega)]; omega
    refine ev_succ ?_
    by_cases h : (rt l i).f0 = x
    · simp only [spec_l23At.l0, if_pos (show (i : Int) < (l.length : Int) by omega), if_pos (show (0 : Int) ≤ i by omega), if_pos h]
      rcases atT_cases l x with ⟨_, h2⟩ | ⟨j, hj, h2, h3, h4⟩
      · exact absurd h (h2 i (by omega))
      · have : j = i := by
          rcases Nat.lt_trichotomy j i with h5 | h5 | h5
          · exact absurd h3 (hn j h5)
          · exact h5
          · exact absurd h (h4 i h5)
        rw [h2, this]
        exact ev_some _
    · simp only [spec_l23At.l0, if_pos (show (i : Int) < (l.length : Int) by omega), if_pos (show (0 : Int) ≤ i by omega), if_neg h, e1]
      refine ih (i + 1) (by omega) (by omega) (fun j hj => ?_)
      by_cases e : j = i
      · subst e; exact h
      · exact hn j (by omega)
theorem specAt (l : List Tm) (x : Int) (hl : l.length ≤ 1000000000000) : Ev (fun k => spec_l23At.f k l x) (atT l x) := by
  unfold spec_l23At.f
  exact specAt_loop l x hl l.length 0 (by omega) (by omega) (fun j hj => by omega)
def endT (l : List Tm) (i : Int) (e : Int) : Int := if i + 1 < (l.length : Int) then (rt l (i + 1)).f1 else e
theorem implEndAt (l : List Tm) (i e : Int) (h0 : 0 ≤ i) (h1 : i ≤ 1000000000000) : impl_endAt.f l i e = some (endT l i e) := by
  unfold impl_endAt.f endT
  rw [wrap_id (by omega) (by omega)]
  by_cases h : i + 1 < (l.length : Int)
  · rw [if_pos h, if_pos (by omega), if_pos h]
  · rw [if_neg h, if_neg h]
theorem specEnd (l : List Tm) (i e : Int) (h0 : 0 ≤ i) (h1 : i ≤ 1000000000000) : spec_l23End.f l i e = some (endT l i e) := by
  unfold spec_l23End.f endT
  rw [wrap_id (by omega) (by omega)]
  by_cases h : i + 1 < (l.length : Int)
  · rw [if_pos h, if_pos (by omega), if_pos h]
  · rw [if_neg h, if_neg h]
noncomputable def tend (l : List Tm) (x e : Int) : Int := if ve l e = true then (if atT l x < 0 then -1 else endT l (atT l x) e) else -1
theorem implTermsEnd (l : List Tm) (x e : Int) (hl : l.length ≤ 1000000000000) : Ev (fun k => impl_TermsEnd.f k l x e) (tend l x e) := by
  unfold impl_TermsEnd.f tend
  refine Ev.bind (implEndValid l e hl) ?_
  by_cases hv : ve l e = true
  · simp only [if_pos hv]
    by_cases hn : atT l x < 0
    · simp only [if_pos hn, if_pos (show impl_findTerm l x < 0 from hn)]
      exact ev_some _
    · simp only [if_neg hn, if_neg (show ¬ impl_findTerm l x < 0 from hn)]
      refine ev_of_all fun k => ?_
      refine implEndAt l _ e (show 0 ≤ atT l x by omega) ?_
      rcases atT_cases l x with ⟨h, _⟩ | ⟨j, hj, h, _⟩
      · omega
      · show atT l x ≤ _
        omega
  · simp only [if_neg hv]
    exact ev_some _
theorem specTermsEnd (l : List Tm) (x e : Int) (hl : l.length ≤ 1000000000000) : Ev (fun k => spec_TermsEnd.f k l x e) (tend l x e) := by
  unfold spec_TermsEnd.f tend
  refine Ev.bind (specAt l x hl) ?_
  refine Ev.bind (specOk l e hl) ?_
  by_cases hv : ve l e = true
  · simp only [if_pos hv]
    by_cases hn : atT l x < 0
    · simp only [if_pos hn]
      exact ev_some _
    · simp only [if_neg hn]
      rw [specEnd l _ e (by omega) (by rcases atT_cases l x with ⟨h, _⟩ | ⟨j, hj, h, _⟩ <;> omega)]
      exact ev_of_all fun k => rfl
  · simp only [if_neg hv]
    exact ev_some _
end Go.Proofs.Ytamncgpajkoiaaa.Q
namespace Go.Proofs.Ytamncgpajkoiaaa.Q
open Go.RowKit Go.Proofs.Ytamncgpajkoiaaa.T Go.Proofs.YtamncgpajkoiaaaW.PrintWords Go.Proofs.YtamncgpajkoiaaaW.PrintLast
set_option linter.unusedVariables false
set_option linter.unusedSimpArgs false
theorem drawEnd0 (bs : List Int) (hb : Bytes bs) (hl : bs.length ≤ 2000) (p : Int) (h0 : 0 ≤ p) (h1 : p ≤ 1000000) (l : List Tm) (h9 : l.length ≤ 9) : Evs (fun k => spec_l92End.f k bs p l) (fun r => 0 ≤ r.2 ∧ r.2 ≤ p + 2) := by
  unfold spec_l92End.f
  by_cases hz : (l.length : Int) = 0
  · simp only [if_pos hz]
    refine Evs.bind (pick_evs bs p 20 hb hl h0 (by omega) (by omega)) ?_
    rintro ⟨v, _⟩ ⟨v0, v1, rfl⟩
    exact Evs.done ⟨by dsimp only; omega, by dsimp only; omega⟩
  · have e2 : wrap64 ((l.length : Int) - 1) = (l.length : Int) - 1 := wrap_id (by omega) (by omega)
    simp only [if_neg hz, e2, if_pos (show 0 ≤ (l.length : Int) - 1 by omega), if_pos (show (l.length : Int) - 1 < (l.length : Int) by omega)]
    refine Evs.bind (pick_evs bs p 10 hb hl h0 (by omega) (by omega)) ?_
    rintro ⟨v, _⟩ ⟨v0, v1, rfl⟩
    refine Evs.bind (pick_evs bs (p + 1) 20 hb hl (by omega) (by omega) (by omega)) ?_
    rintro ⟨u, _⟩ ⟨u0, u1, rfl⟩
    exact Evs.done ⟨by dsimp only; omega, by dsimp only; omega⟩
end Go.Proofs.Ytamncgpajkoiaaa.Q
namespace Go.Proofs.Ytamncgpajkoiaaa.Pure
open Go.RowKit Go.Proofs.Ytamncgpajkoiaaa.T Go.Proofs.YtamncgpajkoiaaaW.PrintWords Go.Proofs.YtamncgpajkoiaaaW.PrintLast Go.Proofs.Ytamncgpajkoiaaa.Q
set_option linter.unusedVariables false
set_option linter.unusedSimpArgs false
theorem drawEnd {l0 : List Int} (hb : Bytes l0) : Evs (fun k => spec_DrawTermsEnd.f k l0) (fun r => r.1.length ≤ 9) := by
  obtain ⟨b, ho, hb2, hbl⟩ := open_ev l0 hb
  obtain ⟨r, p', hr, h9, hp0, hp1⟩ := terms_ev b hb2 hbl 0 (by omega) (by omega)
  unfold spec_DrawTermsEnd.f
  simp only [ho, bsome]
  refine Evs.bind (Evs.of hr rfl : Evs _ (fun x => x = (r, p'))) ?_
  rintro _ rfl
  refine Evs.bind (drawEnd0 b hb2 hbl p' hp0 (by omega) r h9) ?_
  rintro ⟨e, q⟩ ⟨hq0, hq1⟩
  dsimp only at hq0 hq1 ⊢
  by_cases hz : (r.length : Int) > 0
  · simp only [if_pos hz]
    refine Evs.bind (pick_evs b q 5 hb2 hbl hq0 (by omega) (by omega)) ?_
    rintro ⟨u, _⟩ ⟨u0, u1, rfl⟩
    refine Evs.succ ?_
    by_cases hu : u > 0
    · simp only [spec_DrawTermsEnd.j0, decide_eq_true hu, if_true]
      refine Evs.bind (pick_evs b (q + 1) (r.length : Int) hb2 hbl (by omega) (by omega) (by omega)) ?_
      rintro ⟨v, _⟩ ⟨v0, v1, rfl⟩
      simp only [if_pos v0, if_pos v1]
      exact Evs.done h9
    · simp only [spec_DrawTermsEnd.j0, decide_eq_false hu, Bool.false_eq_true, if_false]
      refine Evs.bind (pick_evs b (q + 1) 10 hb2 hbl (by omega) (by omega) (by omega)) ?_
      rintro ⟨v, _⟩ ⟨v0, v1, rfl⟩
      exact Evs.done h9
  · simp only [if_neg hz]
    refine Evs.succ ?_
    simp only [spec_DrawTermsEnd.j0, Bool.false_eq_true, if_false]
    refine Evs.bind (pick_evs b q 10 hb2 hbl hq0 (by omega) (by omega)) ?_
    rintro ⟨v, _⟩ ⟨v0, v1, rfl⟩
    exact Evs.done h9
theorem end_l0 (l : List Tm) (h9 : l.length ≤ 9) (x e : Int) (hv : ve l e = true) (i : Nat) (hi : i < l.length) (h1 : atT l x = i) (hx : (rt l i).f0 = x) (hn : ∀ j, j < i → (rt l j).f0 ≠ x) :
    ∀ (d j : Nat), i - j = d → j ≤ i → Ev (fun k => laws_FnTermsEnd.l0 k l x e (endT l i e) (j : Int)) true := by
  obtain ⟨hV, e0, e1, he⟩ := ve_vt hv
  have hp := ((VT_iff l).1 hV).2.2
  intro d
  induction d with
  | zero =>
    intro j hd hj
    obtain rfl : j = i := by omega
    have w1 : wrap64 ((j : Int) + 1) = (j : Int) + 1 := wrap_id (by omega) (by omega)
    refine ev_succ ?_
    simp only [laws_FnTermsEnd.l0, if_pos (show (j : Int) < (l.length : Int) by omega), if_pos (show (0 : Int) ≤ j by omega), if_pos hx, w1]
    by_cases hlt : (j : Int) + 1 < (l.length : Int)
    · have hlt' : (rt l ((j : Int) + 1)).f1 > (rt l (j : Int)).f1 := by
        have := (next_of_pairwise hp j (by omega)).2
        rw [show (j : Int) + 1 = ((j + 1 : Nat) : Int) by omega, rt_nat l (j + 1) (by omega), rt_nat l j hi]
        exact this
      simp only [if_pos hlt, if_pos (show (0 : Int) ≤ (j : Int) + 1 by omega), endT, decide_eq_true hlt', if_true]
      exact ev_some _
    · have hlt' : e > (rt l (j : Int)).f1 := by
        have h2 := he.resolve_left (by omega)
        unfold lastTm at h2
        rw [show (l.length : Int) - 1 = (j : Int) by omega] at h2
        exact h2
      simp only [if_neg hlt, endT, decide_eq_true hlt', if_true]
      exact ev_some _
  | succ d ih =>
    intro j hd hj
    have w1 : wrap64 ((j : Int) + 1) = ((j + 1 : Nat) : Int) := by rw [wrap_id (by omega) (by omega)]; omega
    refine ev_succ ?_
    simp only [laws_FnTermsEnd.l0, if_pos (show (j : Int) < (l.length : Int) by omega), if_pos (show (0 : Int) ≤ j by omega), if_neg (hn j (by omega)), w1]
    exact ih (j + 1) (by omega) (by omega)
theorem FnTermsEnd : laws_FnTermsEnd.Pure := by
  intro l0 _ _ hb0
  refine Ev.rounds ?_
  have hb := bytes_of hb0
  unfold laws_FnTermsEnd.f
  by_cases h : (l0.length : Int) > 1048576
  · simp only [if_pos h]
    exact ev_some _
  · simp only [if_neg h]
    obtain ⟨⟨r, x, e⟩, hd, h9⟩ := drawEnd hb
    dsimp only at h9
    refine Ev.bind hd ?_
    refine Ev.bind (implTermsEnd r x e (by omega)) ?_
    refine Ev.bind (specTermsEnd r x e (by omega)) ?_
    simp only [if_true]
    refine ev_succ ?_
    by_cases hn : tend r x e < 0
    · simp only [laws_FnTermsEnd.j0, decide_eq_true hn, if_true, beq_self_eq_true]
      exact ev_some _
    · simp only [laws_FnTermsEnd.j0, decide_eq_false hn, Bool.false_eq_true, if_false]
      unfold tend at hn ⊢
      by_cases hv : ve r e = true
      · rw [if_pos hv] at hn ⊢
        by_cases ha : atT r x < 0
        · rw [if_pos ha] at hn
          omega
        · rw [if_neg ha]
          rcases atT_cases r x with ⟨h1, _⟩ | ⟨i, hi, h1, h2, h3⟩
          · omega
          · rw [h1]
            exact end_l0 r h9 x e hv i hi h1 h2 h3 i 0 (by omega) (by omega)
      · rw [if_neg hv] at hn
        omega
end Go.Proofs.Ytamncgpajkoiaaa.Pure
namespace Go.Proofs.Ytamncgpajkoiaaa.fnTermsEnd
open Go.ChangeShapes Go.WideShapes Go.ChangeAt Go.RowKit
open Go.ChangeMaps (open_string shut_string)
set_option linter.unusedVariables false
theorem own : ownKnob Try.prog.godebug = none := by kernel_rfl
theorem laidOut : laidOutB Try.prog = true := by kernel_rfl
def IsRow (k : IntKind) (w : World) (a : Option Addr) (len cap : Nat) (zs : List Int) : Prop :=
  (a = none ∧ len = 0 ∧ cap = 0 ∧ zs = []) ∨
  ∃ x, a = some x ∧ len ≤ cap ∧ cap ≤ maxLen ∧ zs.length = cap ∧ (∀ i, i < zs.length → w.cell? (x.add i) = some (.int k (zs.getD i 0))) ∧ ∀ n ∈ zs, (Lit.int k n).wf = true
set_option maxRecDepth 100000 in
theorem lifted (os : Os) (started : os.Started) (H : Type) (enc : TypeId × Value → H) :
    ReturnsInHanded {} Try.checked os 12 .any (Rows.fnTermsEndSpec.pre6 enc Try.prog Try.f12 Rows.fnTermsEndRow.domain false) (Rows.fnTermsEndSpec.post enc Try.prog Try.f12 false true false false) := by
  refine returnsInHanded_of_change_sized (C := Try.checked) own started (by kernel_rfl) Try.func12
    (ChangeSpec.witness6 (enc := enc) (C := Try.checked) false ⟨#[], #[.slice none 0 0], []⟩ 8 (by kernel_rfl) (by kernel_rfl) (by kernel_rfl) (by kernel_rfl)) ?_
  intro W base args ds gs before hval0 hW hcnd hsz0 _
  have hsz : (DataW.weightsEach Try.prog (Try.f12.params.toList ++ Rows.fnTermsEndSpec.plain.varTypes Try.prog) (ds ++ gs)).all (· ≤ reachBytes) = true := hsz0
  have hval : ∀ (j : Nat) t v, Try.f12.params[j]? = some t → args[j]? = some v → Value.okWide Try.prog W .any base t v := hval0
  have hW' := hW
  obtain ⟨p, q, hA0, hV, rfl, hfz, hnd⟩ := hW
  have hA : DataW.TrodAll enc Try.prog W 0 (fun _ => true) true Try.f12.params.toList args.toList ds p := hA0
  rw [Try.params12] at hA hval hsz
  obtain ⟨v0, vs0, d0, ds0, p0, q0, hargs, rfl, rfl, h0, r0⟩ := trodAll_cons hA
  obtain ⟨rfl, rfl, rfl⟩ := trodAll_nil r0
  obtain rfl : args = #[v0] := by cases args; simp_all
  obtain ⟨rfl, rfl⟩ := trodVars_none hV
  obtain ⟨a0, len0, cap0, rfl⟩ := okWide_slice Try.underlying22 (hval 0 22 v0 rfl rfl)
  have k0 := h0
  have lt0 : ∀ x ∈ p0, x.block < W.heap.size := by obtain ⟨m, hm⟩ := k0; exact DataW.trod_lt m _ _ _ hm
  obtain ⟨z0, w0⟩ : ∃ zs, IsRow .u8 W a0 len0 cap0 zs := by
    obtain ⟨fuel, hf⟩ := h0
    rcases open_ints Try.underlying22 Try.underlying5 (by kernel_rfl) hf with ⟨hcs, _⟩ | ⟨x, l, c, zs, hcs, _, hl, hm, hz, _, hcell, hwz⟩
    · simp [Value.cells] at hcs
      obtain ⟨rfl, rfl, rfl⟩ := hcs
      exact ⟨[], .inl ⟨rfl, rfl, rfl, rfl⟩⟩
    · simp [Value.cells] at hcs
      obtain ⟨rfl, rfl, rfl⟩ := hcs
      exact ⟨zs, .inr ⟨_, rfl, hl, hm, by simpa using hz, hcell, hwz⟩⟩
  have y0 : len0 * 1 ≤ 140737488351232 := Go.Proofs.YtamncgpajkoiaaaW.PrintWords.sized_ints hsz (j := 0) (t := 22) rfl rfl Try.underlying22 Try.underlying5 (by kernel_rfl) (by kernel_rfl) h0
  clear hA0 hval0 hsz0 hsz
  refine (T.laws_FnTermsEnd.walk Pure.FnTermsEnd a0 len0 cap0 z0 W w0 y0).mono fun e W' ⟨he, bel⟩ => ?_
  subst he
  exact ⟨_, rfl, _, _, _, [], _, [], hW', trodAll_mk1 (shut_bool Try.underlying4 _), (trodAll_cons_mk (Below.trod laidOut (by kernel_rfl) (of_decide_eq_true (by kernel_rfl)) k0 bel lt0) trodAll_mk0), rfl, bel.frame _, fun h => by cases h⟩
theorem closed : joinedFacts Try.prog 12 Try.f12 Rows.fnTermsEndSpec Rows.fnTermsEndRow = true :=
  Head.closed_of _ _ _ _ _ (by kernel_rfl) (by kernel_rfl) (by kernel_rfl) (by kernel_rfl) (by kernel_rfl) (by kernel_rfl) (by kernel_rfl) (by kernel_rfl) (by kernel_rfl) (by kernel_rfl) (by kernel_rfl) (by kernel_rfl) (by kernel_rfl) (by kernel_rfl) (by kernel_rfl) (by kernel_rfl) (by kernel_rfl) (by kernel_rfl) (by kernel_rfl) (by kernel_rfl) (by kernel_rfl) (by kernel_rfl) (by kernel_rfl) (by kernel_rfl) (by kernel_rfl) Head.may_enter (by rw [Head.lifts_final]; kernel_rfl) (by rw [Head.make_is]; kernel_rfl) (by kernel_rfl) (by kernel_rfl) (by kernel_rfl) (by kernel_rfl)
theorem over : Rows.fnTermsEndRow.holds Try.pinned (OpenSpec.ofChange Rows.fnTermsEndSpec) :=
  OpenClaim.holds_of_wide 12 Try.f12 rfl rfl rfl rfl rfl rfl rfl ⟨rfl, rfl, rfl, rfl, rfl⟩ rfl rfl rfl rfl rfl (by kernel_rfl) Try.func12 closed
    (of_decide_eq_true (by kernel_rfl)) (by unfold Func.isWrapper; first | (rw [if_pos (by decide +kernel)]; kernel_rfl) | (rw [if_neg (by decide +kernel)]; exact ⟨rfl, rfl⟩))
    (fun os started H enc _ => lifted os started H enc)
theorem proved : Rows.FnTermsEndSaid := over
end Go.Proofs.Ytamncgpajkoiaaa.fnTermsEnd
namespace Go.Proofs.Ytamncgpajkoiaaa
theorem fnTermsEnd_holds : Rows.FnTermsEndSaid := fnTermsEnd.proved
end Go.Proofs.Ytamncgpajkoiaaa
