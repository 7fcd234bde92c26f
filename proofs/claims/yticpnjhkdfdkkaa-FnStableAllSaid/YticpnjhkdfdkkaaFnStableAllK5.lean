/- FnStableAll, part 6 of 6: merged by wip/tools/pack2.py out of the texts that the row reaches; the pure statement is the session's own. -/
import Derived.Test.YticpnjhkdfdkkaaRows
import Derived.WalkKit
import Derived.ProofKit
import Derived.OpenShut
import Derived.ShutString
import Derived.ChangeOld
import Derived.Below
import Derived.SizedLaws
import Derived.Test.YticpnjhkdfdkkaaFnStableAllK4
namespace Go.Proofs.Yticpnjhkdfdkkaa.T
open Go.RowKit Go.Proofs.YticpnjhkdfdkkaaW.PrintWords Go.Proofs.YticpnjhkdfdkkaaW.PrintLast Go.Proofs.YticpnjhkdfdkkaaW.PrintMore
attribute [local go_sem] max2_int max_two
set_option linter.unusedVariables false
set_option linter.unusedSimpArgs false
def laws_sameRecords.l0 : Nat → List (S34) → List (S34) → Int → Option (Bool)
 | 0, _, _, _ => none
 | k + 1, x0, x1, x5 => if x5 < (x0.length : Int) then (if 0 ≤ x5 then (if x5 < (x1.length : Int) then ((laws_sameRecord.f k ((rd_T34 x0 x5).f0) ((rd_T34 x0 x5).f1) ((rd_T34 x0 x5).f2) ((rd_T34 x0 x5).f3) ((rd_T34 x0 x5).f4) ((rd_T34 x0 x5).f5) ((rd_T34 x1 x5).f0) ((rd_T34 x1 x5).f1) ((rd_T34 x1 x5).f2) ((rd_T34 x1 x5).f3) ((rd_T34 x1 x5).f4) ((rd_T34 x1 x5).f5)).bind fun t455 => (if t455 = true then (laws_sameRecords.l0 k x0 x1 (wrap64 (x5 + 1))) else (some false))) else (none)) else (none)) else (some true)
def laws_sameRecords.f (k : Nat) (l0 : List (S34)) (l1 : List (S34)) : Option (Bool) := if (l0.length : Int) = (l1.length : Int) then (laws_sameRecords.l0 k l0 l1 0) else (some false)
def laws_sameRecords.T6 : Bool × List (List Nat × List Nat) := (true, [([], []), ([], []), ([0, 1], [0, 1]), ([2], [2]), ([], []), ([], []), ([4, 5], [4, 5]), ([6], [6]), ([3, 7], [3, 7]), ([8], [8])])
def laws_sameRecords.B6 : List Nat := [0, 0, 3, 7, 0, 0, 48, 112, 255, 511]
theorem laws_sameRecords.tab6 : rtab .any (opsOf Try.f36 6) = laws_sameRecords.T6 := by kernel_rfl
theorem laws_sameRecords.bits6 : waitsOk laws_sameRecords.T6.2 laws_sameRecords.B6 = true := by kernel_rfl
set_option maxHeartbeats 8000000 in
set_option maxRecDepth 100000 in
theorem laws_sameRecords.calls (k : Nat) (A0 : Option Addr) (c0 : Nat) (l0 : List (S34)) (A1 : Option Addr) (c1 : Nat) (l1 : List (S34)) (r : Bool) (w : World) (hr0 : Kd.C k34 w A0 l0.length l0) (hc0 : l0.length ≤ c0) (hr1 : Kd.C k34 w A1 l1.length l1) (hc1 : l1.length ≤ c1) (h : laws_sameRecords.f k l0 l1 = some r) :
  Calls Try.prog 36 #[.slice A0 l0.length c0, .slice A1 l1.length c1] w fun e w' => e = .returned (.bool r) ∧ Below w.heap.size w w' := by
 have hu34 := Try.underlying34; have HR0 := zzm hr0; have HC0 := zzm hc0; clear hr0 hc0; have HR1 := zzm hr1; have HC1 := zzm hc1; clear hr1 hc1; have HB := zzm (Below.refl w.heap.size w); have H : (if (l0.length : Int) = (l1.length : Int) then (laws_sameRecords.l0 k l0 l1 0) else (some false)) = some r := h; clear h; by_cases c3 : (l0.length : Int) = (l1.length : Int)
 ·
  rw [if_pos c3] at H; have c3b0 : ((l0.length : Int) == (l1.length : Int)) = true := beq_iff_eq.mpr c3; have c3b1 : ((l0.length : Int) != (l1.length : Int)) = false := bne_eq_false_iff_eq.mpr c3; have c3b2 : (l0.length == l1.length) = true := by first | simpa using c3 | (simp at c3 ⊢; omega)
  clear c3; have H' := zzm H; clear H; go_enter Try.func36, Try.ntmps36; go_wp2; go_loopg [5] k (fun kq v5 w' => ∃ (x5_1 : Int), v5 = .int .i64 x5_1 ∧ Aside0 (laws_sameRecords.l0 kq l0 l1 x5_1 = some r) ∧ Aside0 (kq ≤ k) ∧ Aside0 (Below w.heap.size w w'))
  case atStart => exact ⟨(0), (by first | rfl | (simp; done) | (simp [*]; done)), H', ⟨Nat.le_refl _⟩, ⟨zzh1⟩⟩
  case round =>
   clear H'; try clear c1
   try clear p2
   try clear c3
   try clear c3b0
   try clear c3b1
   try clear c3b2
   obtain ⟨x5_1, rfl, HA, HK1, HB⟩ := hrel; cases gk with
   | zero => exact absurd HA.out (by simp [laws_sameRecords.l0])
   | succ k1 =>
    have H := HA.out; clear HA; simp only [laws_sameRecords.l0] at H; by_cases c4 : x5_1 < (l0.length : Int)
    ·
     rw [if_pos c4] at H; have c4b0 : decide (x5_1 < (l0.length : Int)) = true := decide_eq_true c4; clear c4; by_cases c5 : 0 ≤ x5_1
     ·
      rw [if_pos c5] at H; have c5b0 : decide (0 ≤ x5_1) = true := decide_eq_true c5; clear c5; by_cases c6 : x5_1 < (l1.length : Int)
      ·
       rw [if_pos c6] at H; have c6b0 : decide (x5_1 < (l1.length : Int)) = true := decide_eq_true c6; clear c6; replace H := Option.bind_eq_some_iff.mp H; obtain ⟨t455, A70, H⟩ := H; replace H : (if t455 = true then (laws_sameRecords.l0 k1 l0 l1 (wrap64 (x5_1 + 1))) else (some false)) = some r := H; have A7 := zzm A70; clear A70; by_cases c8 : t455 = true
       ·
        subst c8; have H1 : (laws_sameRecords.l0 k1 l0 l1 (wrap64 (x5_1 + 1))) = some r := by rw [if_pos rfl] at H; exact H
        clear H; have H := H1; clear H1; have H' := zzm H; clear H; try go_wp2
        have n0_ := zzm (zzc HB.out); clear HB; have HB := n0_; clear n0_; have p453 : 0 ≤ (x5_1 : Int) := zzt; have q453 : x5_1 < (l0.length : Int) := zzt; obtain ⟨ad453, A453_3, c453_3, A453_5, c453_5, e453, hx453_0, hx453_1, hx453_2, hx453_3, hx453_4, hx453_5, hl453_3, hi453_3, hl453_5, hi453_5⟩ := at_T34 HR0.out x5_1 p453 q453; have hw453_5 := hx453_5; have hw453_4 := hx453_4; have hw453_3 := hx453_3; have hw453_2 := hx453_2; have hw453_1 := hx453_1; have hw453_0 := hx453_0; cases e453; replace hx453_0 := zzx HB.out hx453_0; replace hx453_1 := zzx HB.out hx453_1; replace hx453_2 := zzx HB.out hx453_2; replace hx453_3 := zzx HB.out hx453_3; replace hx453_4 := zzx HB.out hx453_4; replace hx453_5 := zzx HB.out hx453_5; have HR453_3 := zzm hi453_3; have HC453_3 := zzm hl453_3; clear hi453_3 hl453_3; have HR453_5 := zzm hi453_5; have HC453_5 := zzm hl453_5; clear hi453_5 hl453_5; replace p453 := eq_true p453; replace q453 := eq_true q453; have p454 : 0 ≤ (x5_1 : Int) := zzt; have q454 : x5_1 < (l1.length : Int) := zzt; obtain ⟨ad454, A454_3, c454_3, A454_5, c454_5, e454, hx454_0, hx454_1, hx454_2, hx454_3, hx454_4, hx454_5, hl454_3, hi454_3, hl454_5, hi454_5⟩ := at_T34 HR1.out x5_1 p454 q454; have hw454_5 := hx454_5; have hw454_4 := hx454_4; have hw454_3 := hx454_3; have hw454_2 := hx454_2; have hw454_1 := hx454_1; have hw454_0 := hx454_0; cases e454; replace hx454_0 := zzx HB.out hx454_0; replace hx454_1 := zzx HB.out hx454_1; replace hx454_2 := zzx HB.out hx454_2; replace hx454_3 := zzx HB.out hx454_3; replace hx454_4 := zzx HB.out hx454_4; replace hx454_5 := zzx HB.out hx454_5; have HR454_3 := zzm hi454_3; have HC454_3 := zzm hl454_3; clear hi454_3 hl454_3; have HR454_5 := zzm hi454_5; have HC454_5 := zzm hl454_5; clear hi454_5 hl454_5; replace p454 := eq_true p454; replace q454 := eq_true q454; refine start_ (n := 10) (S := fun w' => w'.cell? (ad453.add ((x5_1).toNat * 6)) = some (.int .i64 ((rd_T34 l0 x5_1).f0)) ∧ w'.cell? ⟨(ad453.add ((x5_1).toNat * 6)).block, (ad453.add ((x5_1).toNat * 6)).off + 1, none⟩ = some (.int .i64 ((rd_T34 l0 x5_1).f1)) ∧ w'.cell? ⟨(ad453.add ((x5_1).toNat * 6)).block, (ad453.add ((x5_1).toNat * 6)).off + 2, none⟩ = some (.bool ((rd_T34 l0 x5_1).f2)) ∧ w'.cell? ⟨(ad453.add ((x5_1).toNat * 6)).block, (ad453.add ((x5_1).toNat * 6)).off + 3, none⟩ = some (.slice A453_3 ((rd_T34 l0 x5_1).f3).length c453_3) ∧ w'.cell? ⟨(ad453.add ((x5_1).toNat * 6)).block, (ad453.add ((x5_1).toNat * 6)).off + 4, none⟩ = some (.bool ((rd_T34 l0 x5_1).f4)) ∧ w'.cell? ⟨(ad453.add ((x5_1).toNat * 6)).block, (ad453.add ((x5_1).toNat * 6)).off + 5, none⟩ = some (.slice A453_5 ((rd_T34 l0 x5_1).f5).length c453_5) ∧ w'.cell? (ad454.add ((x5_1).toNat * 6)) = some (.int .i64 ((rd_T34 l1 x5_1).f0)) ∧ w'.cell? ⟨(ad454.add ((x5_1).toNat * 6)).block, (ad454.add ((x5_1).toNat * 6)).off + 1, none⟩ = some (.int .i64 ((rd_T34 l1 x5_1).f1)) ∧ w'.cell? ⟨(ad454.add ((x5_1).toNat * 6)).block, (ad454.add ((x5_1).toNat * 6)).off + 2, none⟩ = some (.bool ((rd_T34 l1 x5_1).f2)) ∧ w'.cell? ⟨(ad454.add ((x5_1).toNat * 6)).block, (ad454.add ((x5_1).toNat * 6)).off + 3, none⟩ = some (.slice A454_3 ((rd_T34 l1 x5_1).f3).length c454_3) ∧ w'.cell? ⟨(ad454.add ((x5_1).toNat * 6)).block, (ad454.add ((x5_1).toNat * 6)).off + 4, none⟩ = some (.bool ((rd_T34 l1 x5_1).f4)) ∧ w'.cell? ⟨(ad454.add ((x5_1).toNat * 6)).block, (ad454.add ((x5_1).toNat * 6)).off + 5, none⟩ = some (.slice A454_5 ((rd_T34 l1 x5_1).f5).length c454_5)) (ds := []) (zzB 10 0) (by kernel_rfl) rfl rfl ⟨(zzx HB.out hw453_0), (zzx HB.out hw453_1), (zzx HB.out hw453_2), (zzx HB.out hw453_3), (zzx HB.out hw453_4), (zzx HB.out hw453_5), (zzx HB.out hw454_0), (zzx HB.out hw454_1), (zzx HB.out hw454_2), (zzx HB.out hw454_3), (zzx HB.out hw454_4), (zzx HB.out hw454_5)⟩ (fun hHeld => ?_); refine with_tabW laws_sameRecords.tab6 laws_sameRecords.bits6 (fun HT_ HW_ => ?_); generalize wr.drew = w9 at HB HR453_3 HR453_5 HR454_3 HR454_5 hx453_0 hx453_1 hx453_2 hx453_3 hx453_4 hx453_5 hx454_0 hx454_1 hx454_2 hx454_3 hx454_4 hx454_5 hHeld ⊢; refine pure_ (i := 0) (N := some 17) (v := ?_) (a' := ?_) (zzB 10 1) rfl rfl (any_of HT_.out (by kernel_rfl)) (fun _ _ _ h => h) (Or.inl ⟨by rfl, ?_⟩) ?_ ?_; rotate_left
        ·
         intro w'; go_simp; with_reducible rfl
        rotate_left
        ·
         simp only [Act.put, zzq, zzr, zzs, i64_w, i32_w]; rfl
        refine pure_ (i := 1) (N := some 18) (v := ?_) (a' := ?_) (zzB 10 3) rfl rfl (any_of HT_.out (by kernel_rfl)) (fun _ _ _ h => h) (Or.inl ⟨by rfl, ?_⟩) ?_ ?_; rotate_left
        ·
         intro w'; go_simp; with_reducible rfl
        rotate_left
        ·
         simp only [Act.put, zzq, zzr, zzs, i64_w, i32_w]; rfl
        refine pure_ (i := 2) (N := some 19) (v := ?_) (a' := ?_) (zzB 10 7) rfl rfl (any_of HT_.out (by kernel_rfl)) (fun _ _ _ h => h) (Or.inl ⟨by rfl, ?_⟩) ?_ ?_; rotate_left
        ·
         intro w'; go_simp; with_reducible rfl
        rotate_left
        ·
         simp only [Act.put, zzq, zzr, zzs, i64_w, i32_w]; rfl
        refine pure_ (i := 4) (N := some 21) (v := ?_) (a' := ?_) (zzB 10 23) rfl rfl (any_of HT_.out (by kernel_rfl)) (fun _ _ _ h => h) (Or.inl ⟨by rfl, ?_⟩) ?_ ?_; rotate_left
        ·
         intro w'; go_simp; with_reducible rfl
        rotate_left
        ·
         simp only [Act.put, zzq, zzr, zzs, i64_w, i32_w]; rfl
        refine pure_ (i := 5) (N := some 22) (v := ?_) (a' := ?_) (zzB 10 55) rfl rfl (any_of HT_.out (by kernel_rfl)) (fun _ _ _ h => h) (Or.inl ⟨by rfl, ?_⟩) ?_ ?_; rotate_left
        ·
         intro w'; go_simp; with_reducible rfl
        rotate_left
        ·
         simp only [Act.put, zzq, zzr, zzs, i64_w, i32_w]; rfl
        refine pure_ (i := 6) (N := some 23) (v := ?_) (a' := ?_) (zzB 10 119) rfl rfl (any_of HT_.out (by kernel_rfl)) (fun _ _ _ h => h) (Or.inl ⟨by rfl, ?_⟩) ?_ ?_; rotate_left
        ·
         intro w'; go_simp; with_reducible rfl
        rotate_left
        ·
         simp only [Act.put, zzq, zzr, zzs, i64_w, i32_w]; rfl
        refine take_ (i := 3) (N := some 20) (v := ?_) (a' := ?_) (zzB 10 127) rfl rfl (take_ofW HT_.out HW_.out (by kernel_rfl)) (fun _ _ _ h => h) (Or.inl ⟨by rfl, ?_⟩) hHeld ?_ ?_; rotate_left
        ·
         rintro w' ⟨s0, s1, s2, s3, s4, s5, s6, s7, s8, s9, s10, s11⟩; go_simp; with_reducible rfl
        rotate_left
        ·
         simp only [Act.put, zzq, zzr, zzs, i64_w, i32_w]; rfl
        refine take_ (i := 7) (N := some 24) (v := ?_) (a' := ?_) (zzB 10 255) rfl rfl (take_ofW HT_.out HW_.out (by kernel_rfl)) (fun _ _ _ h => h) (Or.inl ⟨by rfl, ?_⟩) hHeld ?_ ?_; rotate_left
        ·
         rintro w' ⟨s0, s1, s2, s3, s4, s5, s6, s7, s8, s9, s10, s11⟩; go_simp; with_reducible rfl
        rotate_left
        ·
         simp only [Act.put, zzq, zzr, zzs, i64_w, i32_w]; rfl
        refine one_ (i := 8) (N := some 25) (zzB 10 511) rfl rfl (one_of HT_.out (by kernel_rfl)) (by decide) (fun K hK => ?_); refine goes_ Try.func23 (by kernel_rfl) rfl #[.agg #[.int .i64 ((rd_T34 l0 x5_1).f0), .int .i64 ((rd_T34 l0 x5_1).f1), .bool ((rd_T34 l0 x5_1).f2), .slice A453_3 ((rd_T34 l0 x5_1).f3).length c453_3, .bool ((rd_T34 l0 x5_1).f4), .slice A453_5 ((rd_T34 l0 x5_1).f5).length c453_5], .agg #[.int .i64 ((rd_T34 l1 x5_1).f0), .int .i64 ((rd_T34 l1 x5_1).f1), .bool ((rd_T34 l1 x5_1).f2), .slice A454_3 ((rd_T34 l1 x5_1).f3).length c454_3, .bool ((rd_T34 l1 x5_1).f4), .slice A454_5 ((rd_T34 l1 x5_1).f5).length c454_5]] (by rfl) rfl rfl (by (try simp only [List.map_toArray, List.map_cons, List.map_nil]); first | done | rfl | (simp only [List.length_drop, List.length_take]; rfl)) ?_; with_reducible refine (laws_sameRecord.calls k1 ((rd_T34 l0 x5_1).f0) ((rd_T34 l0 x5_1).f1) ((rd_T34 l0 x5_1).f2) _ _ ((rd_T34 l0 x5_1).f3) ((rd_T34 l0 x5_1).f4) _ _ ((rd_T34 l0 x5_1).f5) ((rd_T34 l1 x5_1).f0) ((rd_T34 l1 x5_1).f1) ((rd_T34 l1 x5_1).f2) _ _ ((rd_T34 l1 x5_1).f3) ((rd_T34 l1 x5_1).f4) _ _ ((rd_T34 l1 x5_1).f5) true _ ?side1 ?side2 ?side3 ?side4 ?side5 ?side6 ?side7 ?side8 A7.out).mono ?_; (case side1 => repeat (first | exact (Kd.C_below HR453_3.out HB.out) | (with_reducible refine Kd.C_alloc ?_ _) | (with_reducible refine Kd.C_drewN ?_ _) | (with_reducible refine Kd.C_drew ?_))); (case side2 => exact HC453_3.out); (case side3 => repeat (first | exact (Kd.C_below HR453_5.out HB.out) | (with_reducible refine Kd.C_alloc ?_ _) | (with_reducible refine Kd.C_drewN ?_ _) | (with_reducible refine Kd.C_drew ?_))); (case side4 => exact HC453_5.out); (case side5 => repeat (first | exact (Kd.C_below HR454_3.out HB.out) | (with_reducible refine Kd.C_alloc ?_ _) | (with_reducible refine Kd.C_drewN ?_ _) | (with_reducible refine Kd.C_drew ?_))); (case side6 => exact HC454_3.out); (case side7 => repeat (first | exact (Kd.C_below HR454_5.out HB.out) | (with_reducible refine Kd.C_alloc ?_ _) | (with_reducible refine Kd.C_drewN ?_ _) | (with_reducible refine Kd.C_drew ?_))); (case side8 => exact HC454_5.out); rintro e w10 ⟨rfl, hb⟩; refine ⟨_, rfl, ?_⟩; have n0_ := zzm (zzp zzh1 hb); clear HB; have HB := n0_; clear n0_; (try clear hb); (try clear hb2); (try clear hk); (try clear hi); refine hK.out _ _ ⟨(zzx HB.out hw453_0), (zzx HB.out hw453_1), (zzx HB.out hw453_2), (zzx HB.out hw453_3), (zzx HB.out hw453_4), (zzx HB.out hw453_5), (zzx HB.out hw454_0), (zzx HB.out hw454_1), (zzx HB.out hw454_2), (zzx HB.out hw454_3), (zzx HB.out hw454_4), (zzx HB.out hw454_5)⟩ (fun hHeld => ?_); clear hK K; refine norm_ (a' := ?_) ?_ ?_; rotate_left
        ·
         show Act.put _ (some 25) _ = _; simp only [Act.put, zzq, zzr, zzs, i64_w, i32_w]; rfl
        refine pure_ (i := 9) (N := some 26) (v := ?_) (a' := ?_) (zzB 10 1023) rfl rfl (any_of HT_.out (by kernel_rfl)) (fun _ _ _ h => h) (Or.inl ⟨by rfl, ?_⟩) ?_ ?_; rotate_left
        ·
         intro w'; go_simp; with_reducible rfl
        rotate_left
        ·
         simp only [Act.put, zzq, zzr, zzs, i64_w, i32_w]; rfl
        refine done_ (done_of HT_.out (by kernel_rfl)) ?_; try go_wp2
        go_roundg k1
        case measure => have := HK1.out; omega
        case rel => exact ⟨(wrap64 (x5_1 + 1)), (by first | rfl | (simp; done) | (simp [*]; done)), H', ⟨by have := HK1.out; omega⟩, ⟨zzh1⟩⟩
       ·
        replace c8 := Bool.eq_false_iff.mpr c8; subst c8; have H1 : (some false) = some r := by rw [if_neg (show ¬ (false = true) by decide)] at H; exact H
        clear H; have H := H1; clear H1; obtain rfl := Option.some.inj H; try go_wp2
        have n0_ := zzm (zzc HB.out); clear HB; have HB := n0_; clear n0_; have p453 : 0 ≤ (x5_1 : Int) := zzt; have q453 : x5_1 < (l0.length : Int) := zzt; obtain ⟨ad453, A453_3, c453_3, A453_5, c453_5, e453, hx453_0, hx453_1, hx453_2, hx453_3, hx453_4, hx453_5, hl453_3, hi453_3, hl453_5, hi453_5⟩ := at_T34 HR0.out x5_1 p453 q453; have hw453_5 := hx453_5; have hw453_4 := hx453_4; have hw453_3 := hx453_3; have hw453_2 := hx453_2; have hw453_1 := hx453_1; have hw453_0 := hx453_0; cases e453; replace hx453_0 := zzx HB.out hx453_0; replace hx453_1 := zzx HB.out hx453_1; replace hx453_2 := zzx HB.out hx453_2; replace hx453_3 := zzx HB.out hx453_3; replace hx453_4 := zzx HB.out hx453_4; replace hx453_5 := zzx HB.out hx453_5; have HR453_3 := zzm hi453_3; have HC453_3 := zzm hl453_3; clear hi453_3 hl453_3; have HR453_5 := zzm hi453_5; have HC453_5 := zzm hl453_5; clear hi453_5 hl453_5; replace p453 := eq_true p453; replace q453 := eq_true q453; have p454 : 0 ≤ (x5_1 : Int) := zzt; have q454 : x5_1 < (l1.length : Int) := zzt; obtain ⟨ad454, A454_3, c454_3, A454_5, c454_5, e454, hx454_0, hx454_1, hx454_2, hx454_3, hx454_4, hx454_5, hl454_3, hi454_3, hl454_5, hi454_5⟩ := at_T34 HR1.out x5_1 p454 q454; have hw454_5 := hx454_5; have hw454_4 := hx454_4; have hw454_3 := hx454_3; have hw454_2 := hx454_2; have hw454_1 := hx454_1; have hw454_0 := hx454_0; cases e454; replace hx454_0 := zzx HB.out hx454_0; replace hx454_1 := zzx HB.out hx454_1; replace hx454_2 := zzx HB.out hx454_2; replace hx454_3 := zzx HB.out hx454_3; replace hx454_4 := zzx HB.out hx454_4; replace hx454_5 := zzx HB.out hx454_5; have HR454_3 := zzm hi454_3; have HC454_3 := zzm hl454_3; clear hi454_3 hl454_3; have HR454_5 := zzm hi454_5; have HC454_5 := zzm hl454_5; clear hi454_5 hl454_5; replace p454 := eq_true p454; replace q454 := eq_true q454; refine start_ (n := 10) (S := fun w' => w'.cell? (ad453.add ((x5_1).toNat * 6)) = some (.int .i64 ((rd_T34 l0 x5_1).f0)) ∧ w'.cell? ⟨(ad453.add ((x5_1).toNat * 6)).block, (ad453.add ((x5_1).toNat * 6)).off + 1, none⟩ = some (.int .i64 ((rd_T34 l0 x5_1).f1)) ∧ w'.cell? ⟨(ad453.add ((x5_1).toNat * 6)).block, (ad453.add ((x5_1).toNat * 6)).off + 2, none⟩ = some (.bool ((rd_T34 l0 x5_1).f2)) ∧ w'.cell? ⟨(ad453.add ((x5_1).toNat * 6)).block, (ad453.add ((x5_1).toNat * 6)).off + 3, none⟩ = some (.slice A453_3 ((rd_T34 l0 x5_1).f3).length c453_3) ∧ w'.cell? ⟨(ad453.add ((x5_1).toNat * 6)).block, (ad453.add ((x5_1).toNat * 6)).off + 4, none⟩ = some (.bool ((rd_T34 l0 x5_1).f4)) ∧ w'.cell? ⟨(ad453.add ((x5_1).toNat * 6)).block, (ad453.add ((x5_1).toNat * 6)).off + 5, none⟩ = some (.slice A453_5 ((rd_T34 l0 x5_1).f5).length c453_5) ∧ w'.cell? (ad454.add ((x5_1).toNat * 6)) = some (.int .i64 ((rd_T34 l1 x5_1).f0)) ∧ w'.cell? ⟨(ad454.add ((x5_1).toNat * 6)).block, (ad454.add ((x5_1).toNat * 6)).off + 1, none⟩ = some (.int .i64 ((rd_T34 l1 x5_1).f1)) ∧ w'.cell? ⟨(ad454.add ((x5_1).toNat * 6)).block, (ad454.add ((x5_1).toNat * 6)).off + 2, none⟩ = some (.bool ((rd_T34 l1 x5_1).f2)) ∧ w'.cell? ⟨(ad454.add ((x5_1).toNat * 6)).block, (ad454.add ((x5_1).toNat * 6)).off + 3, none⟩ = some (.slice A454_3 ((rd_T34 l1 x5_1).f3).length c454_3) ∧ w'.cell? ⟨(ad454.add ((x5_1).toNat * 6)).block, (ad454.add ((x5_1).toNat * 6)).off + 4, none⟩ = some (.bool ((rd_T34 l1 x5_1).f4)) ∧ w'.cell? ⟨(ad454.add ((x5_1).toNat * 6)).block, (ad454.add ((x5_1).toNat * 6)).off + 5, none⟩ = some (.slice A454_5 ((rd_T34 l1 x5_1).f5).length c454_5)) (ds := []) (zzB 10 0) (by kernel_rfl) rfl rfl ⟨(zzx HB.out hw453_0), (zzx HB.out hw453_1), (zzx HB.out hw453_2), (zzx HB.out hw453_3), (zzx HB.out hw453_4), (zzx HB.out hw453_5), (zzx HB.out hw454_0), (zzx HB.out hw454_1), (zzx HB.out hw454_2), (zzx HB.out hw454_3), (zzx HB.out hw454_4), (zzx HB.out hw454_5)⟩ (fun hHeld => ?_); refine with_tabW laws_sameRecords.tab6 laws_sameRecords.bits6 (fun HT_ HW_ => ?_); generalize wr.drew = w11 at HB HR453_3 HR453_5 HR454_3 HR454_5 hx453_0 hx453_1 hx453_2 hx453_3 hx453_4 hx453_5 hx454_0 hx454_1 hx454_2 hx454_3 hx454_4 hx454_5 hHeld ⊢; refine pure_ (i := 0) (N := some 17) (v := ?_) (a' := ?_) (zzB 10 1) rfl rfl (any_of HT_.out (by kernel_rfl)) (fun _ _ _ h => h) (Or.inl ⟨by rfl, ?_⟩) ?_ ?_; rotate_left
        ·
         intro w'; go_simp; with_reducible rfl
        rotate_left
        ·
         simp only [Act.put, zzq, zzr, zzs, i64_w, i32_w]; rfl
        refine pure_ (i := 1) (N := some 18) (v := ?_) (a' := ?_) (zzB 10 3) rfl rfl (any_of HT_.out (by kernel_rfl)) (fun _ _ _ h => h) (Or.inl ⟨by rfl, ?_⟩) ?_ ?_; rotate_left
        ·
         intro w'; go_simp; with_reducible rfl
        rotate_left
        ·
         simp only [Act.put, zzq, zzr, zzs, i64_w, i32_w]; rfl
        refine pure_ (i := 2) (N := some 19) (v := ?_) (a' := ?_) (zzB 10 7) rfl rfl (any_of HT_.out (by kernel_rfl)) (fun _ _ _ h => h) (Or.inl ⟨by rfl, ?_⟩) ?_ ?_; rotate_left
        ·
         intro w'; go_simp; with_reducible rfl
        rotate_left
        ·
         simp only [Act.put, zzq, zzr, zzs, i64_w, i32_w]; rfl
        refine pure_ (i := 4) (N := some 21) (v := ?_) (a' := ?_) (zzB 10 23) rfl rfl (any_of HT_.out (by kernel_rfl)) (fun _ _ _ h => h) (Or.inl ⟨by rfl, ?_⟩) ?_ ?_; rotate_left
        ·
         intro w'; go_simp; with_reducible rfl
        rotate_left
        ·
         simp only [Act.put, zzq, zzr, zzs, i64_w, i32_w]; rfl
        refine pure_ (i := 5) (N := some 22) (v := ?_) (a' := ?_) (zzB 10 55) rfl rfl (any_of HT_.out (by kernel_rfl)) (fun _ _ _ h => h) (Or.inl ⟨by rfl, ?_⟩) ?_ ?_; rotate_left
        ·
         intro w'; go_simp; with_reducible rfl
        rotate_left
        ·
         simp only [Act.put, zzq, zzr, zzs, i64_w, i32_w]; rfl
        refine pure_ (i := 6) (N := some 23) (v := ?_) (a' := ?_) (zzB 10 119) rfl rfl (any_of HT_.out (by kernel_rfl)) (fun _ _ _ h => h) (Or.inl ⟨by rfl, ?_⟩) ?_ ?_; rotate_left
        ·
         intro w'; go_simp; with_reducible rfl
        rotate_left
        ·
         simp only [Act.put, zzq, zzr, zzs, i64_w, i32_w]; rfl
        refine take_ (i := 3) (N := some 20) (v := ?_) (a' := ?_) (zzB 10 127) rfl rfl (take_ofW HT_.out HW_.out (by kernel_rfl)) (fun _ _ _ h => h) (Or.inl ⟨by rfl, ?_⟩) hHeld ?_ ?_; rotate_left
        ·
         rintro w' ⟨s0, s1, s2, s3, s4, s5, s6, s7, s8, s9, s10, s11⟩; go_simp; with_reducible rfl
        rotate_left
        ·
         simp only [Act.put, zzq, zzr, zzs, i64_w, i32_w]; rfl
        refine take_ (i := 7) (N := some 24) (v := ?_) (a' := ?_) (zzB 10 255) rfl rfl (take_ofW HT_.out HW_.out (by kernel_rfl)) (fun _ _ _ h => h) (Or.inl ⟨by rfl, ?_⟩) hHeld ?_ ?_; rotate_left
        ·
         rintro w' ⟨s0, s1, s2, s3, s4, s5, s6, s7, s8, s9, s10, s11⟩; go_simp; with_reducible rfl
        rotate_left
        ·
         simp only [Act.put, zzq, zzr, zzs, i64_w, i32_w]; rfl
        refine one_ (i := 8) (N := some 25) (zzB 10 511) rfl rfl (one_of HT_.out (by kernel_rfl)) (by decide) (fun K hK => ?_); refine goes_ Try.func23 (by kernel_rfl) rfl #[.agg #[.int .i64 ((rd_T34 l0 x5_1).f0), .int .i64 ((rd_T34 l0 x5_1).f1), .bool ((rd_T34 l0 x5_1).f2), .slice A453_3 ((rd_T34 l0 x5_1).f3).length c453_3, .bool ((rd_T34 l0 x5_1).f4), .slice A453_5 ((rd_T34 l0 x5_1).f5).length c453_5], .agg #[.int .i64 ((rd_T34 l1 x5_1).f0), .int .i64 ((rd_T34 l1 x5_1).f1), .bool ((rd_T34 l1 x5_1).f2), .slice A454_3 ((rd_T34 l1 x5_1).f3).length c454_3, .bool ((rd_T34 l1 x5_1).f4), .slice A454_5 ((rd_T34 l1 x5_1).f5).length c454_5]] (by rfl) rfl rfl (by (try simp only [List.map_toArray, List.map_cons, List.map_nil]); first | done | rfl | (simp only [List.length_drop, List.length_take]; rfl)) ?_; with_reducible refine (laws_sameRecord.calls k1 ((rd_T34 l0 x5_1).f0) ((rd_T34 l0 x5_1).f1) ((rd_T34 l0 x5_1).f2) _ _ ((rd_T34 l0 x5_1).f3) ((rd_T34 l0 x5_1).f4) _ _ ((rd_T34 l0 x5_1).f5) ((rd_T34 l1 x5_1).f0) ((rd_T34 l1 x5_1).f1) ((rd_T34 l1 x5_1).f2) _ _ ((rd_T34 l1 x5_1).f3) ((rd_T34 l1 x5_1).f4) _ _ ((rd_T34 l1 x5_1).f5) false _ ?side1 ?side2 ?side3 ?side4 ?side5 ?side6 ?side7 ?side8 A7.out).mono ?_; (case side1 => repeat (first | exact (Kd.C_below HR453_3.out HB.out) | (with_reducible refine Kd.C_alloc ?_ _) | (with_reducible refine Kd.C_drewN ?_ _) | (with_reducible refine Kd.C_drew ?_))); (case side2 => exact HC453_3.out); (case side3 => repeat (first | exact (Kd.C_below HR453_5.out HB.out) | (with_reducible refine Kd.C_alloc ?_ _) | (with_reducible refine Kd.C_drewN ?_ _) | (with_reducible refine Kd.C_drew ?_))); (case side4 => exact HC453_5.out); (case side5 => repeat (first | exact (Kd.C_below HR454_3.out HB.out) | (with_reducible refine Kd.C_alloc ?_ _) | (with_reducible refine Kd.C_drewN ?_ _) | (with_reducible refine Kd.C_drew ?_))); (case side6 => exact HC454_3.out); (case side7 => repeat (first | exact (Kd.C_below HR454_5.out HB.out) | (with_reducible refine Kd.C_alloc ?_ _) | (with_reducible refine Kd.C_drewN ?_ _) | (with_reducible refine Kd.C_drew ?_))); (case side8 => exact HC454_5.out); rintro e w12 ⟨rfl, hb⟩; refine ⟨_, rfl, ?_⟩; have n0_ := zzm (zzp zzh1 hb); clear HB; have HB := n0_; clear n0_; (try clear hb); (try clear hb2); (try clear hk); (try clear hi); refine hK.out _ _ ⟨(zzx HB.out hw453_0), (zzx HB.out hw453_1), (zzx HB.out hw453_2), (zzx HB.out hw453_3), (zzx HB.out hw453_4), (zzx HB.out hw453_5), (zzx HB.out hw454_0), (zzx HB.out hw454_1), (zzx HB.out hw454_2), (zzx HB.out hw454_3), (zzx HB.out hw454_4), (zzx HB.out hw454_5)⟩ (fun hHeld => ?_); clear hK K; refine norm_ (a' := ?_) ?_ ?_; rotate_left
        ·
         show Act.put _ (some 25) _ = _; simp only [Act.put, zzq, zzr, zzs, i64_w, i32_w]; rfl
        refine pure_ (i := 9) (N := some 26) (v := ?_) (a' := ?_) (zzB 10 1023) rfl rfl (any_of HT_.out (by kernel_rfl)) (fun _ _ _ h => h) (Or.inl ⟨by rfl, ?_⟩) ?_ ?_; rotate_left
        ·
         intro w'; go_simp; with_reducible rfl
        rotate_left
        ·
         simp only [Act.put, zzq, zzr, zzs, i64_w, i32_w]; rfl
        refine done_ (done_of HT_.out (by kernel_rfl)) ?_; try go_wp2
        go_ret; exact ⟨by first | rfl | (simp [errW_none, errW_some] <;> rfl) | (simp [*, errW_none, errW_some] <;> rfl), zzh1⟩
      ·
       rw [if_neg c6] at H; exact absurd H (by simp)
     ·
      rw [if_neg c5] at H; exact absurd H (by simp)
    ·
     rw [if_neg c4] at H; have c4b0 : decide (x5_1 < (l0.length : Int)) = false := decide_eq_false c4; clear c4; obtain rfl := Option.some.inj H; go_wp2; go_ret; exact ⟨by first | rfl | (simp [errW_none, errW_some] <;> rfl) | (simp [*, errW_none, errW_some] <;> rfl), zzh1⟩
 ·
  rw [if_neg c3] at H; have c3b0 : ((l0.length : Int) == (l1.length : Int)) = false := beq_eq_false_iff_ne.mpr c3; have c3b1 : ((l0.length : Int) != (l1.length : Int)) = true := bne_iff_ne.mpr c3; have c3b2 : (l0.length == l1.length) = false := by first | simpa using c3 | (simp at c3 ⊢; omega)
  obtain rfl := Option.some.inj H; go_enter Try.func36, Try.ntmps36; go_wp2; go_ret; exact ⟨by first | rfl | (simp [errW_none, errW_some] <;> rfl) | (simp [*, errW_none, errW_some] <;> rfl), zzh1⟩
end Go.Proofs.Yticpnjhkdfdkkaa.T
namespace Go.Proofs.Yticpnjhkdfdkkaa.T
open Go.RowKit Go.Proofs.YticpnjhkdfdkkaaW.PrintWords Go.Proofs.YticpnjhkdfdkkaaW.PrintLast Go.Proofs.YticpnjhkdfdkkaaW.PrintMore
attribute [local go_sem] max2_int max_two
set_option linter.unusedVariables false
set_option linter.unusedSimpArgs false
def impl_copyRecords.l0 : Nat → List (S34) → List (S34) → Int → Int → Option ((List (S34)))
 | 0, _, _, _, _ => none
 | k + 1, x3, x9, x10, x11 => if x11 < x10 then (if 0 ≤ x11 then (if x11 < (x9.length : Int) then ((impl_Record_copyOf.f ((rd_T34 x9 x11).f0) ((rd_T34 x9 x11).f1) ((rd_T34 x9 x11).f2) ((rd_T34 x9 x11).f3) ((rd_T34 x9 x11).f4) ((rd_T34 x9 x11).f5)).bind fun bt331 => (if x3.length < 1759218604441 then (impl_copyRecords.l0 k (x3 ++ [(⟨bt331.1, bt331.2.1, bt331.2.2.1, bt331.2.2.2.1, bt331.2.2.2.2.1, bt331.2.2.2.2.2⟩ : S34)]) x9 x10 (wrap64 (x11 + 1))) else (none))) else (none)) else (none)) else (some x3)
def impl_copyRecords.f (k : Nat) (l0 : List (S34)) : Option ((List (S34))) := if 0 ≤ (l0.length : Int) then (if ((l0.length : Int) : Int).toNat ≤ 3518437208883 then (impl_copyRecords.l0 k (([] : List (S34))) l0 (l0.length : Int) 0) else (none)) else (none)
set_option maxHeartbeats 8000000 in
set_option maxRecDepth 100000 in
theorem impl_copyRecords.calls (k : Nat) (A0 : Option Addr) (c0 : Nat) (l0 : List (S34)) (r : List (S34)) (w : World) (hr0 : Kd.C k34 w A0 l0.length l0) (hc0 : l0.length ≤ c0) (h : impl_copyRecords.f k l0 = some r) :
  Calls Try.prog 72 #[.slice A0 l0.length c0] w fun e w' => ∃ v0_ : Value, e = .returned (v0_) ∧ Kd.S k34 34 w' w.heap.size (fun _ => True) v0_ r ∧ Below w.heap.size w w' := by
 have hu34 := Try.underlying34; have HR0 := zzm hr0; have HC0 := zzm hc0; clear hr0 hc0; have HB := zzm (Below.refl w.heap.size w); have H : (if 0 ≤ (l0.length : Int) then (if ((l0.length : Int) : Int).toNat ≤ 3518437208883 then (impl_copyRecords.l0 k (([] : List (S34))) l0 (l0.length : Int) 0) else (none)) else (none)) = some r := h; clear h; by_cases c2 : 0 ≤ (l0.length : Int)
 ·
  rw [if_pos c2] at H; have c2b0 := eq_true c2; have c2b1 : decide (0 ≤ (l0.length : Int)) = true := decide_eq_true c2; clear c2; by_cases c3 : ((l0.length : Int) : Int).toNat ≤ 3518437208883
  ·
   rw [if_pos c3] at H; have c3b0 := eq_true c3; have c3b1 : decide (((l0.length : Int) : Int).toNat ≤ 3518437208883) = true := decide_eq_true c3; clear c3; obtain ⟨y326, hy326⟩ : ∃ y_ : List (S34), y_ = (([] : List (S34))) := ⟨_, rfl⟩; replace H : (impl_copyRecords.l0 k y326 l0 (l0.length : Int) 0) = some r := by first | (rw [hy326]; with_reducible exact H) | (have H2_ := (Option.bind_some _ _).symm.trans H; rw [hy326]; with_reducible exact H2_) | (have H2_ := (Option.bind_some _ _).symm.trans H; with_reducible exact H2_) | with_reducible exact H | (rw [hy326]; exact H) | exact H
   have Ny326 := zzm hy326; clear hy326; have H' := zzm H; clear H; go_enter Try.func72, Try.ntmps72; go_wp2_with (first | ((with_reducible refine gate_dst (N := 8) rfl ?_); refine rmake0_S k34 _ 34 rfl (N := 8) rfl 25 _ _ rfl (l0.length : Int) rfl rfl Try.underlying25 (.agg #[(.int .i64 0), (.int .i64 0), (.bool false), (.slice none 0 0), (.bool false), (.slice none 0 0)]) 80 info34 (by decide) (by omega) (ok := fun _ => True) (trivial) (zzt) (Nat.le_trans (Nat.mul_le_mul_right _ (zzt : (l0.length : Int).toNat ≤ 3518437208883)) (by omega)) (Below.refl _ _) (Nat.le_refl _) ?_; intro v327 w4 ho5 hb hg_ hnew_; clear hg_ hnew_; (first | rw [← Ny326.out] at ho5 | (simp only [Int.reduceToNat] at ho5; rw [← Ny326.out] at ho5)); have n0_ := zzm (Kd.S_lower ho5 (zzo zzh1)); have n1_ := zzm (zzp zzh1 hb); clear HB; have HO328 := n0_; have HB := n1_; clear n0_ n1_ hb ho5)); go_loopg [3, 11] k (fun kq v3 v11 w' => ∃ (x3_1 : List (S34)) (x11_1 : Int), v11 = .int .i64 x11_1 ∧ Aside0 (impl_copyRecords.l0 kq x3_1 l0 (l0.length : Int) x11_1 = some r) ∧ Aside0 (kq ≤ k) ∧ Aside0 (Kd.S k34 34 w' w.heap.size (fun _ => True) v3 x3_1) ∧ Aside0 (Below w.heap.size w w'))
   case atStart => exact ⟨(y326), (0), (by first | rfl | (simp; done) | (simp [*]; done)), H', ⟨Nat.le_refl _⟩, ⟨by (with_reducible repeat (first | apply Kd.S_alloc | apply Kd.S_drewN | apply Kd.S_drew)); exact HO328.out⟩, ⟨zzh1⟩⟩
   case round =>
    clear H'; try clear c2
    try clear c2b0
    try clear c2b1
    try clear p2
    try clear c3
    try clear c3b0
    try clear c3b1
    obtain ⟨x3_1, x11_1, rfl, HA, HK1, HO_3, HB⟩ := hrel; cases gk with
    | zero => exact absurd HA.out (by simp [impl_copyRecords.l0])
    | succ k1 =>
     have H := HA.out; clear HA; simp only [impl_copyRecords.l0] at H; by_cases c6 : x11_1 < (l0.length : Int)
     ·
      rw [if_pos c6] at H; have c6b0 : decide (x11_1 < (l0.length : Int)) = true := decide_eq_true c6; clear c6; by_cases c7 : 0 ≤ x11_1
      ·
       rw [if_pos c7] at H; have c7b0 : decide (0 ≤ x11_1) = true := decide_eq_true c7; clear c7; by_cases c8 : x11_1 < (l0.length : Int)
       ·
        rw [if_pos c8] at H; have c8b0 : decide (x11_1 < (l0.length : Int)) = true := decide_eq_true c8; clear c8; replace H := Option.bind_eq_some_iff.mp H; obtain ⟨⟨t331, t332, t333, t334, t337, t338⟩, A90, H⟩ := H; replace H : (if x3_1.length < 1759218604441 then (impl_copyRecords.l0 k1 (x3_1 ++ [(⟨t331, t332, t333, t334, t337, t338⟩ : S34)]) l0 (l0.length : Int) (wrap64 (x11_1 + 1))) else (none)) = some r := H; have A9 := zzm A90; clear A90; by_cases c10 : x3_1.length < 1759218604441
        ·
         rw [if_pos c10] at H; have LMc10 := zzm c10; clear c10; obtain ⟨y341, hy341⟩ : ∃ y_ : List (S34), y_ = (x3_1 ++ [(⟨t331, t332, t333, t334, t337, t338⟩ : S34)]) := ⟨_, rfl⟩; replace H : (impl_copyRecords.l0 k1 y341 l0 (l0.length : Int) (wrap64 (x11_1 + 1))) = some r := by first | (rw [hy341]; with_reducible exact H) | (have H2_ := (Option.bind_some _ _).symm.trans H; rw [hy341]; with_reducible exact H2_) | (have H2_ := (Option.bind_some _ _).symm.trans H; with_reducible exact H2_) | with_reducible exact H | (rw [hy341]; exact H) | exact H
         have Ny341 := zzm hy341; clear hy341; have H' := zzm H; clear H; have p329 : 0 ≤ (x11_1 : Int) := zzt; have q329 : x11_1 < (l0.length : Int) := zzt; obtain ⟨ad329, A329_3, c329_3, A329_5, c329_5, e329, hx329_0, hx329_1, hx329_2, hx329_3, hx329_4, hx329_5, hl329_3, hi329_3, hl329_5, hi329_5⟩ := at_T34 HR0.out x11_1 p329 q329; cases e329; replace hx329_0 := zzx HB.out hx329_0; replace hx329_1 := zzx HB.out hx329_1; replace hx329_2 := zzx HB.out hx329_2; replace hx329_3 := zzx HB.out hx329_3; replace hx329_4 := zzx HB.out hx329_4; replace hx329_5 := zzx HB.out hx329_5; have HR329_3 := zzm hi329_3; have HC329_3 := zzm hl329_3; clear hi329_3 hl329_3; have HR329_5 := zzm hi329_5; have HC329_5 := zzm hl329_5; clear hi329_5 hl329_5; replace p329 := eq_true p329; replace q329 := eq_true q329; go_wp2_with (first | ((with_reducible refine gate_dst (N := 5) rfl ?_); refine box_event ?hg (N := 5) ?hd (cs := #[.int .i64 0, .int .i64 0, .bool false, .slice none 0 0, .bool false, .slice none 0 0]) (t := 34) ?hr ?_; (case hd => rfl); (case hg => rfl); (case hr => first | (go_simp; done) | (go_simp; rfl)); intro gb330 hg w11 hbox hb; have n0_ := zzm (Kd.S_below (Kd.S_elderB (by (with_reducible repeat (first | apply Kd.S_alloc | apply Kd.S_drewN | apply Kd.S_drew)); exact HO_3.out) gb330 (Nat.le_of_eq hg.symm)) hb); have n1_ := zzm (zzp zzh1 hb); have n2_ := zzm (hbox); have n3_ := zzm ((by rw [hg]; exact (zzo zzh1) : w.heap.size ≤ gb330)); have n4_ := zzm ((by rw [hg]; exact (zzo zzh1) : w.heap.size ≤ gb330)); clear HO_3 HB; have HO_3 := n0_; have HB := n1_; have BK330 := n2_; have GW330 := n3_; have GE330 := n4_; clear n0_ n1_ n2_ n3_ n4_ hb hbox hg; obtain ⟨hcz12_0, hcz12_1, hcz12_2, hcz12_3, hcz12_4, hcz12_5, hfz12_0, hfz12_1, hfz12_2, hfz12_3, hfz12_4, hfz12_5⟩ := zzc6 BK330.out) | ((with_reducible refine gate_callee (f := 78) rfl ?_); refine goesL_ (some 17) rfl rfl Try.func78 (by kernel_rfl) rfl #[.agg #[.int .i64 ((rd_T34 l0 x11_1).f0), .int .i64 ((rd_T34 l0 x11_1).f1), .bool ((rd_T34 l0 x11_1).f2), .slice A329_3 ((rd_T34 l0 x11_1).f3).length c329_3, .bool ((rd_T34 l0 x11_1).f4), .slice A329_5 ((rd_T34 l0 x11_1).f5).length c329_5]] rfl (by (try simp only [List.map_toArray, List.map_cons, List.map_nil]); first | done | rfl | (simp only [List.length_drop, List.length_take]; rfl)) ?_; (with_reducible refine (impl_Record_copyOf.calls ((rd_T34 l0 x11_1).f0) ((rd_T34 l0 x11_1).f1) ((rd_T34 l0 x11_1).f2) _ _ ((rd_T34 l0 x11_1).f3) ((rd_T34 l0 x11_1).f4) _ _ ((rd_T34 l0 x11_1).f5) t331 t332 t333 t334 t337 t338 _ ?side1 ?side2 ?side3 ?side4 A9.out).mono ?_); (case side1 => exact Kd.C_below HR329_3.out (by repeat (first | (with_reducible first | exact HB.out | apply zza | apply zzb | apply zzc | refine zzd ?_ GE330.out) | exact HB.out))); (case side2 => exact HC329_3.out); (case side3 => exact Kd.C_below HR329_5.out (by repeat (first | (with_reducible first | exact HB.out | apply zza | apply zzb | apply zzc | refine zzd ?_ GE330.out) | exact HB.out))); (case side4 => exact HC329_5.out); rintro e w13 ⟨v335, v339, rfl, ho0, ho1, hb⟩; refine ⟨_, rfl, ?_⟩; have n0_ := zzm (Kd.S_mono (Kd.S_told (Kd.S_told (Kd.S_old (by (with_reducible repeat (first | apply Kd.S_alloc | apply Kd.S_drewN | apply Kd.S_drew)); exact (Kd.S_mono (Kd.S_far (p := ⟨gb330, 5, none⟩) (Kd.S_far (p := ⟨gb330, 4, none⟩) (Kd.S_far (p := ⟨gb330, 3, none⟩) (Kd.S_far (p := ⟨gb330, 2, none⟩) (Kd.S_far (p := ⟨gb330, 1, none⟩) (Kd.S_far (p := ⟨gb330, 0, none⟩) (Kd.S_mono HO_3.out (fun k_ hk => (⟨hk, hk.2⟩ : _ ∧ k_ ≠ gb330))) (fun _ hk => hk.2) (.int .i64 ((rd_T34 l0 x11_1).f0))) (fun _ hk => hk.2) (.int .i64 ((rd_T34 l0 x11_1).f1))) (fun _ hk => hk.2) (.bool ((rd_T34 l0 x11_1).f2))) (fun _ hk => hk.2) (.slice A329_3 ((rd_T34 l0 x11_1).f3).length c329_3)) (fun _ hk => hk.2) (.bool ((rd_T34 l0 x11_1).f4))) (fun _ hk => hk.2) (.slice A329_5 ((rd_T34 l0 x11_1).f5).length c329_5)) (fun _ h_ => h_.1))) hb) (Kd.R_base ho0)) (Kd.R_base ho1)) (fun _ h_ => h_.1)); have n1_ := zzm (Kd.R_lower ho0 (zzo (by repeat (first | (with_reducible first | exact HB.out | apply zza | apply zzb | apply zzc | refine zzd ?_ GE330.out) | exact HB.out)))); have n2_ := zzm (Kd.R_lower ho1 (zzo (by repeat (first | (with_reducible first | exact HB.out | apply zza | apply zzb | apply zzc | refine zzd ?_ GE330.out) | exact HB.out)))); have n3_ := zzm (zzh (g := gb330) (o := .cells #[.int .i64 ((rd_T34 l0 x11_1).f0), .int .i64 ((rd_T34 l0 x11_1).f1), .bool ((rd_T34 l0 x11_1).f2), .slice A329_3 ((rd_T34 l0 x11_1).f3).length c329_3, .bool ((rd_T34 l0 x11_1).f4), .slice A329_5 ((rd_T34 l0 x11_1).f5).length c329_5] 34 (0, 0)) (by (with_reducible repeat (first | apply zzf | apply zzg | apply zze)); refine zzi (cs := #[.int .i64 ((rd_T34 l0 x11_1).f0), .int .i64 ((rd_T34 l0 x11_1).f1), .bool ((rd_T34 l0 x11_1).f2), .slice A329_3 ((rd_T34 l0 x11_1).f3).length c329_3, .bool ((rd_T34 l0 x11_1).f4), .slice none 0 0]) ?_ 5 _ rfl; (with_reducible repeat (first | apply zzf | apply zzg | apply zze)); refine zzi (cs := #[.int .i64 ((rd_T34 l0 x11_1).f0), .int .i64 ((rd_T34 l0 x11_1).f1), .bool ((rd_T34 l0 x11_1).f2), .slice A329_3 ((rd_T34 l0 x11_1).f3).length c329_3, .bool false, .slice none 0 0]) ?_ 4 _ rfl; (with_reducible repeat (first | apply zzf | apply zzg | apply zze)); refine zzi (cs := #[.int .i64 ((rd_T34 l0 x11_1).f0), .int .i64 ((rd_T34 l0 x11_1).f1), .bool ((rd_T34 l0 x11_1).f2), .slice none 0 0, .bool false, .slice none 0 0]) ?_ 3 _ rfl; (with_reducible repeat (first | apply zzf | apply zzg | apply zze)); refine zzi (cs := #[.int .i64 ((rd_T34 l0 x11_1).f0), .int .i64 ((rd_T34 l0 x11_1).f1), .bool false, .slice none 0 0, .bool false, .slice none 0 0]) ?_ 2 _ rfl; (with_reducible repeat (first | apply zzf | apply zzg | apply zze)); refine zzi (cs := #[.int .i64 ((rd_T34 l0 x11_1).f0), .int .i64 0, .bool false, .slice none 0 0, .bool false, .slice none 0 0]) ?_ 1 _ rfl; (with_reducible repeat (first | apply zzf | apply zzg | apply zze)); refine zzi (cs := #[.int .i64 0, .int .i64 0, .bool false, .slice none 0 0, .bool false, .slice none 0 0]) ?_ 0 _ rfl; (with_reducible repeat (first | apply zzf | apply zzg | apply zze)); exact BK330.out) hb); have n4_ := zzm (zzp (by repeat (first | (with_reducible first | exact HB.out | apply zza | apply zzb | apply zzc | refine zzd ?_ GE330.out) | exact HB.out)) hb); clear HO_3 BK330 HB; have HO_3 := n0_; have HO336 := n1_; have HO340 := n2_; have BK330 := n3_; have HB := n4_; clear n0_ n1_ n2_ n3_ n4_; (try clear hb); (try clear hb2); (try clear hk); (try clear hi); (try clear ho0); (try clear ho1); obtain ⟨Ao15, co15, eo15⟩ := Kd.R_slice HO336.out; subst eo15; obtain ⟨Ao16, co16, eo16⟩ := Kd.R_slice HO340.out; subst eo16) | ((with_reducible refine gate_builtin (b := .append) (xs := #[.tmp 15, .tmp 18]) rfl ?_); at_builtin; refine Kd.S_append k34 (w0 := w) w.heap.size rfl (.tmp 15) (.tmp 18) 25 34 (.agg #[(.int .i64 0), (.int .i64 0), (.bool false), (.slice none 0 0), (.bool false), (.slice none 0 0)]) 80 rfl Try.underlying25 info34 rfl (by decide) (by omega) u3 x3_1 (⟨t331, t332, t333, t334, t337, t338⟩ : S34) [.int .i64 t331, .int .i64 t332, .bool t333, .slice Ao15 t334.length co15, .bool t337, .slice Ao16 t338.length co16] (fun k_ => k_ ≠ gb330) (fun k_ => some k_ = (.slice Ao15 t334.length co15 : Value).ownBlock ∨ some k_ = (.slice Ao16 t338.length co16 : Value).ownBlock) rfl rfl ?aP (fun k_ hk_ => hk_.elim (fun h_ => ((Kd.R_mono (ok' := fun k_ => ((fun k_ => k_ ≠ gb330)) k_ ∧ some k_ ≠ (u3 : Value).ownBlock) (Kd.R_types (Kd.R_apart' (HO336.out) (Kd.S_typed HO_3.out) (by decide)) BK330.out (by decide)) (fun k_ hk => ⟨hk.2, hk.1.2⟩))).1 k_ h_.symm) (fun h_ => ((Kd.R_mono (ok' := fun k_ => ((fun k_ => k_ ≠ gb330)) k_ ∧ some k_ ≠ (u3 : Value).ownBlock) (Kd.R_types (Kd.R_apart' (HO340.out) (Kd.S_typed HO_3.out) (by decide)) BK330.out (by decide)) (fun k_ hk => ⟨hk.2, hk.1.2⟩))).1 k_ h_.symm)) ?aF ?aO ?aB ?aS ?aL ?_; (case aP => exact k34_mkM _ _ _ (⟨t331, t332, t333, t334, t337, t338⟩ : S34) (Kd.R_mono (Kd.R_tight rfl (Kd.R_mono (ok' := fun k_ => ((fun k_ => k_ ≠ gb330)) k_ ∧ some k_ ≠ (u3 : Value).ownBlock) (Kd.R_types (Kd.R_apart' (HO336.out) (Kd.S_typed HO_3.out) (by decide)) BK330.out (by decide)) (fun k_ hk => ⟨hk.2, hk.1.2⟩))) (fun _ h_ => Or.inl h_)) (Kd.R_mono (Kd.R_tight rfl (Kd.R_mono (ok' := fun k_ => ((fun k_ => k_ ≠ gb330)) k_ ∧ some k_ ≠ (u3 : Value).ownBlock) (Kd.R_types (Kd.R_apart' (HO340.out) (Kd.S_typed HO_3.out) (by decide)) BK330.out (by decide)) (fun k_ hk => ⟨hk.2, hk.1.2⟩))) (fun _ h_ => Or.inr (h_)))); (case aB => exact (by repeat (first | (with_reducible first | exact HB.out | apply zza | apply zzb | apply zzc | refine zzd ?_ GE330.out) | exact HB.out))); (case aF => exact (fun k_ hk => Kd.freshB (g := gb330) (o := .cells #[.int .i64 ((rd_T34 l0 x11_1).f0), .int .i64 ((rd_T34 l0 x11_1).f1), .bool ((rd_T34 l0 x11_1).f2), .slice A329_3 ((rd_T34 l0 x11_1).f3).length c329_3, .bool ((rd_T34 l0 x11_1).f4), .slice A329_5 ((rd_T34 l0 x11_1).f5).length c329_5] 34 (0, 0)) (by (with_reducible repeat (first | apply zzf | apply zzg | apply zze)); exact BK330.out) k_ hk)); (case aO => exact (by (with_reducible repeat (first | apply Kd.S_alloc | apply Kd.S_drewN | apply Kd.S_drew)); exact Kd.S_mono HO_3.out (fun k_ hk => ⟨hk.1.1.2, fun e_ => e_.elim (fun h_ => hk.1.2 h_) (fun h_ => hk.2 h_)⟩))); (case aS => exact (zzo (by repeat (first | (with_reducible first | exact HB.out | apply zza | apply zzb | apply zzc | refine zzd ?_ GE330.out) | exact HB.out)))); (case aL => have := LMc10.out; omega); intro v342 w14 ho hb hg hat; rw [← Ny341.out] at ho; have n0_ := zzm (blk_grown (g := gb330) (o := .cells #[.int .i64 ((rd_T34 l0 x11_1).f0), .int .i64 ((rd_T34 l0 x11_1).f1), .bool ((rd_T34 l0 x11_1).f2), .slice A329_3 ((rd_T34 l0 x11_1).f3).length c329_3, .bool ((rd_T34 l0 x11_1).f4), .slice A329_5 ((rd_T34 l0 x11_1).f5).length c329_5] 34 (0, 0)) (by (with_reducible repeat (first | apply zzf | apply zzg | apply zze)); exact BK330.out) hg (Kd.S_away HO_3.out (fun _ hk => hk.1.1.2))); have n1_ := zzm (hb); have n2_ := zzm (ho); clear BK330 HB HO_3 HO336 HO340; have BK330 := n0_; have HB := n1_; have HO343 := n2_; clear n0_ n1_ n2_ ho hb hg hat)); go_roundg k1
         case measure => have := HK1.out; omega
         case rel => exact ⟨(y341), (wrap64 (x11_1 + 1)), (by first | rfl | (simp; done) | (simp [*]; done)), H', ⟨by have := HK1.out; omega⟩, ⟨by (with_reducible repeat (first | apply Kd.S_alloc | apply Kd.S_drewN | apply Kd.S_drew)); exact Kd.S_mono HO343.out (fun _ hk => trivial)⟩, ⟨by repeat (first | (with_reducible first | exact HB.out | apply zza | apply zzb | apply zzc | refine zzd ?_ GE330.out) | exact HB.out)⟩⟩
        ·
         rw [if_neg c10] at H; exact absurd H (by simp)
       ·
        rw [if_neg c8] at H; exact absurd H (by simp)
      ·
       rw [if_neg c7] at H; exact absurd H (by simp)
     ·
      rw [if_neg c6] at H; have c6b0 : decide (x11_1 < (l0.length : Int)) = false := decide_eq_false c6; clear c6; obtain rfl := Option.some.inj H; go_wp2; go_ret; exact ⟨_, by first | rfl | (simp [errW_none, errW_some] <;> rfl) | (simp [*, errW_none, errW_some] <;> rfl), by (with_reducible repeat (first | apply Kd.S_alloc | apply Kd.S_drewN | apply Kd.S_drew)); exact HO_3.out, zzh1⟩
  ·
   rw [if_neg c3] at H; exact absurd H (by simp)
 ·
  rw [if_neg c2] at H; exact absurd H (by simp)
end Go.Proofs.Yticpnjhkdfdkkaa.T
namespace Go.Proofs.Yticpnjhkdfdkkaa.T
open Go.RowKit Go.Proofs.YticpnjhkdfdkkaaW.PrintWords Go.Proofs.YticpnjhkdfdkkaaW.PrintLast Go.Proofs.YticpnjhkdfdkkaaW.PrintMore
attribute [local go_sem] max2_int max_two
set_option linter.unusedVariables false
set_option linter.unusedSimpArgs false
def impl_StableRecords.l0 : Nat → List (S27) → List (S34) → List Int → Int → Int → Option ((List (S34)))
 | 0, _, _, _, _, _ => none
 | k + 1, x0, x3, x13, x14, x15 => if x15 < x14 then (if 0 ≤ x15 then (if x15 < (x13.length : Int) then (if (rd x13 x15) = 0 then (some x3) else (if (rd x13 x15) = 1 then (if x15 < (x0.length : Int) then ((impl_copyRecords.f k ((rd_T27 x0 x15).f5)).bind fun t468 => (if x3.length + t468.length < 1759218604441 then (impl_StableRecords.l0 k x0 (x3 ++ t468) x13 x14 (wrap64 (x15 + 1))) else (none))) else (none)) else (impl_StableRecords.l0 k x0 x3 x13 x14 (wrap64 (x15 + 1))))) else (none)) else (none)) else (some x3)
def impl_StableRecords.f (k : Nat) (l0 : List (S27)) : Option ((List (S34))) := (some (([] : List (S34)) : List (S34))).bind fun y456 => ((impl_LogValid.f k l0).bind fun t459 => (if t459 = true then ((impl_fatesOf.f l0).bind fun bt460 => (impl_StableRecords.l0 k l0 y456 bt460.1 (bt460.1.length : Int) 0)) else (some y456)))
set_option maxHeartbeats 8000000 in
set_option maxRecDepth 100000 in
theorem impl_StableRecords.calls (k : Nat) (A0 : Option Addr) (c0 : Nat) (l0 : List (S27)) (r : List (S34)) (w : World) (hr0 : Kd.C k27 w A0 l0.length l0) (hc0 : l0.length ≤ c0) (h : impl_StableRecords.f k l0 = some r) :
  Calls Try.prog 37 #[.slice A0 l0.length c0] w fun e w' => ∃ v0_ : Value, e = .returned (v0_) ∧ Kd.N k34 34 w' w.heap.size (fun k_ => (w.heap.size ≤ k_)) v0_ r ∧ Below w.heap.size w w' := by
 have hfld_ := field_fates; have HR0 := zzm hr0; have HC0 := zzm hc0; clear hr0 hc0; have HB := zzm (Below.refl w.heap.size w); have H : ((some (([] : List (S34)) : List (S34))).bind fun y456 => ((impl_LogValid.f k l0).bind fun t459 => (if t459 = true then ((impl_fatesOf.f l0).bind fun bt460 => (impl_StableRecords.l0 k l0 y456 bt460.1 (bt460.1.length : Int) 0)) else (some y456)))) = some r := h; clear h; obtain ⟨y456, hy456⟩ : ∃ y_ : List (S34), y_ = (([] : List (S34))) := ⟨_, rfl⟩; replace H : ((impl_LogValid.f k l0).bind fun t459 => (if t459 = true then ((impl_fatesOf.f l0).bind fun bt460 => (impl_StableRecords.l0 k l0 y456 bt460.1 (bt460.1.length : Int) 0)) else (some y456))) = some r := by first | (rw [hy456]; with_reducible exact H) | (have H2_ := (Option.bind_some _ _).symm.trans H; rw [hy456]; with_reducible exact H2_) | (have H2_ := (Option.bind_some _ _).symm.trans H; with_reducible exact H2_) | with_reducible exact H | (rw [hy456]; exact H) | exact H
 have Ny456 := zzm hy456; clear hy456; replace H := Option.bind_eq_some_iff.mp H; obtain ⟨t459, A20, H⟩ := H; replace H : (if t459 = true then ((impl_fatesOf.f l0).bind fun bt460 => (impl_StableRecords.l0 k l0 y456 bt460.1 (bt460.1.length : Int) 0)) else (some y456)) = some r := H; have A2 := zzm A20; clear A20; by_cases c3 : t459 = true
 ·
  subst c3; have H1 : ((impl_fatesOf.f l0).bind fun bt460 => (impl_StableRecords.l0 k l0 y456 bt460.1 (bt460.1.length : Int) 0)) = some r := by rw [if_pos rfl] at H; exact H
  clear H; have H := H1; clear H1; replace H := Option.bind_eq_some_iff.mp H; obtain ⟨⟨t460, t463⟩, A40, H⟩ := H; replace H : (impl_StableRecords.l0 k l0 y456 t460 (t460.length : Int) 0) = some r := H; have A4 := zzm A40; clear A40; have H' := zzm H; clear H; go_enter Try.func37, Try.ntmps37; go_wp2_with (first | ((with_reducible refine gate_dst (N := 6) rfl ?_); refine Kd.N_lit k34 _ 34 ?hg (N' := 6) ?hd (xs := ([] : List (S34))) (inner := []) (ok := (fun k_ => (w.heap.size ≤ k_))) (okp := (fun k_ => (w.heap.size ≤ k_))) ?hr ?hp (fun _ hk => hk) ((show ∀ k_, w.heap.size ≤ k_ → (fun k_ => (w.heap.size ≤ k_)) k_ from fun k_ hk => (Nat.le_trans (zzo zzh1) hk)) _ (Nat.le_refl _)) (Below.refl _ _) (Nat.le_refl _) (by simp) ?_; (case hd => rfl); (case hg => rfl); (case hr => first | (go_simp; done) | (go_simp; rfl)); (case hp => exact (Reps.none _ _)); intro v457 w5 ho6 hb hg_ hnew_; clear hg_ hnew_; (first | rw [← Ny456.out] at ho6 | (simp only [Int.reduceToNat] at ho6; rw [← Ny456.out] at ho6)); have n0_ := zzm (Kd.N_lower ho6 (zzo zzh1)); have n1_ := zzm (zzp zzh1 hb); clear HB; have HO458 := n0_; have HB := n1_; clear n0_ n1_ hb ho6) | ((with_reducible refine gate_callee (f := 61) rfl ?_); refine goesL_ (some 8) rfl rfl Try.func61 (by kernel_rfl) rfl #[.slice A0 l0.length c0] rfl (by (try simp only [List.map_toArray, List.map_cons, List.map_nil]); first | done | rfl | (simp only [List.length_drop, List.length_take]; rfl)) ?_; (with_reducible refine (impl_LogValid.calls k _ _ l0 true _ ?side1 ?side2 A2.out).mono ?_); (case side1 => repeat (first | exact (Kd.C_below HR0.out HB.out) | (with_reducible refine Kd.C_alloc ?_ _) | (with_reducible refine Kd.C_drewN ?_ _) | (with_reducible refine Kd.C_drew ?_))); (case side2 => exact HC0.out); rintro e w7 ⟨rfl, hb⟩; refine ⟨_, rfl, ?_⟩; have n0_ := zzm (Kd.N_below (by (with_reducible repeat (first | apply Kd.N_alloc | apply Kd.N_drewN | apply Kd.N_drew)); exact HO458.out) hb); have n1_ := zzm (zzp zzh1 hb); clear HO458 HB; have HO458 := n0_; have HB := n1_; clear n0_ n1_; (try clear hb); (try clear hb2); (try clear hk); (try clear hi)) | ((with_reducible refine gate_callee (f := 62) rfl ?_); refine goesL_ (some 12) rfl rfl Try.func62 (by kernel_rfl) rfl #[.slice A0 l0.length c0] rfl (by (try simp only [List.map_toArray, List.map_cons, List.map_nil]); first | done | rfl | (simp only [List.length_drop, List.length_take]; rfl)) ?_; (with_reducible refine (impl_fatesOf.calls _ _ l0 t460 t463 _ ?side1 ?side2 A4.out).mono ?_); (case side1 => repeat (first | exact (Kd.C_below HR0.out HB.out) | (with_reducible refine Kd.C_alloc ?_ _) | (with_reducible refine Kd.C_drewN ?_ _) | (with_reducible refine Kd.C_drew ?_))); (case side2 => exact HC0.out); rintro e w8 ⟨v461, v464, rfl, ho0, ho1, hb⟩; refine ⟨_, rfl, ?_⟩; have n0_ := zzm (Kd.N_mono (Kd.N_told (Kd.N_told (Kd.N_old (by (with_reducible repeat (first | apply Kd.N_alloc | apply Kd.N_drewN | apply Kd.N_drew)); exact HO458.out) hb) (Kd.R_base ho0)) (Kd.R_base ho1)) (fun _ h_ => h_.1)); have n1_ := zzm (Kd.R_lower (Kd.R_newM (M := fun k_ => (w.heap.size ≤ k_)) ho0 (zzo zzh1) (fun k_ h_ => h_)) (zzo zzh1)); have n2_ := zzm (Kd.R_lower (Kd.R_newM (M := fun k_ => (w.heap.size ≤ k_)) ho1 (zzo zzh1) (fun k_ h_ => h_)) (zzo zzh1)); have n3_ := zzm (zzp zzh1 hb); clear HO458 HB; have HO458 := n0_; have HO462 := n1_; have HO465 := n2_; have HB := n3_; clear n0_ n1_ n2_ n3_; (try clear hb); (try clear hb2); (try clear hk); (try clear hi); (try clear ho0); (try clear ho1); obtain ⟨Ao9, co9, eo9⟩ := Kd.R_slice HO462.out; subst eo9)); go_loopg [3, 15] k (fun kq v3 v15 w' => ∃ (x3_1 : List (S34)) (x15_1 : Int), v15 = .int .i64 x15_1 ∧ Aside0 (impl_StableRecords.l0 kq l0 x3_1 t460 (t460.length : Int) x15_1 = some r) ∧ Aside0 (kq ≤ k) ∧ Aside0 (Kd.N k34 34 w' w.heap.size (fun k_ => (w.heap.size ≤ k_) ∧ some k_ ≠ ((.slice Ao9 t460.length co9) : Value).ownBlock) v3 x3_1) ∧ Aside0 (Kd.R (Kd.int .i64) 74 w' w.heap.size (fun k_ => (w.heap.size ≤ k_)) (.slice Ao9 t460.length co9) t460) ∧ Aside0 (Below w.heap.size w w'))
  case atStart => exact ⟨(y456), (0), (by first | rfl | (simp; done) | (simp [*]; done)), H', ⟨Nat.le_refl _⟩, ⟨by (with_reducible repeat (first | apply Kd.N_alloc | apply Kd.N_drewN | apply Kd.N_drew)); exact Kd.N_mono HO458.out (fun _ hk => ⟨hk.1.1, hk.1.2⟩)⟩, ⟨by (with_reducible repeat (first | apply Kd.R_alloc | apply Kd.R_drewN | apply Kd.R_drew)); exact Kd.R_mono HO462.out (fun _ hk => hk.1)⟩, ⟨zzh1⟩⟩
  case round =>
   clear H'; try clear p2
   try clear c3
   try clear c6
   obtain ⟨x3_1, x15_1, rfl, HA, HK1, HO_3, HO_13, HB⟩ := hrel; cases gk with
   | zero => exact absurd HA.out (by simp [impl_StableRecords.l0])
   | succ k1 =>
    have H := HA.out; clear HA; simp only [impl_StableRecords.l0] at H; by_cases c10 : x15_1 < (t460.length : Int)
    ·
     rw [if_pos c10] at H; have c10b0 : decide (x15_1 < (t460.length : Int)) = true := decide_eq_true c10; clear c10; by_cases c11 : 0 ≤ x15_1
     ·
      rw [if_pos c11] at H; have c11b0 : decide (0 ≤ x15_1) = true := decide_eq_true c11; clear c11; by_cases c12 : x15_1 < (t460.length : Int)
      ·
       rw [if_pos c12] at H; have c12b0 : decide (x15_1 < (t460.length : Int)) = true := decide_eq_true c12; clear c12; by_cases c13 : (rd t460 x15_1) = 0
       ·
        rw [if_pos c13] at H; have c13b0 : ((rd t460 x15_1) == 0) = true := beq_iff_eq.mpr c13; have c13b1 : ((rd t460 x15_1) != 0) = false := bne_eq_false_iff_eq.mpr c13; clear c13; obtain rfl := Option.some.inj H; have p466 : 0 ≤ (x15_1 : Int) := zzt; have q466 : x15_1 < (t460.length : Int) := zzt; obtain ⟨ad466, e466, hx466_0⟩ := Kd.at_int (Kd.R_reads' HO_13.out).2.2 x15_1 p466 q466; cases e466; replace p466 := eq_true p466; replace q466 := eq_true q466; go_wp2; go_ret; exact ⟨_, by first | rfl | (simp [errW_none, errW_some] <;> rfl) | (simp [*, errW_none, errW_some] <;> rfl), by (with_reducible repeat (first | apply Kd.N_alloc | apply Kd.N_drewN | apply Kd.N_drew)); exact Kd.N_mono HO_3.out (fun _ hk => hk.1), zzh1⟩
       ·
        rw [if_neg c13] at H; have c13b0 : ((rd t460 x15_1) == 0) = false := beq_eq_false_iff_ne.mpr c13; have c13b1 : ((rd t460 x15_1) != 0) = true := bne_iff_ne.mpr c13; by_cases c14 : (rd t460 x15_1) = 1
        ·
         rw [if_pos c14] at H; have c14b0 : ((rd t460 x15_1) == 1) = true := beq_iff_eq.mpr c14; have c14b1 : ((rd t460 x15_1) != 1) = false := bne_eq_false_iff_eq.mpr c14; clear c14; by_cases c15 : x15_1 < (l0.length : Int)
         ·
          rw [if_pos c15] at H; have c15b0 : decide (x15_1 < (l0.length : Int)) = true := decide_eq_true c15; clear c15; replace H := Option.bind_eq_some_iff.mp H; obtain ⟨t468, A160, H⟩ := H; replace H : (if x3_1.length + t468.length < 1759218604441 then (impl_StableRecords.l0 k1 l0 (x3_1 ++ t468) t460 (t460.length : Int) (wrap64 (x15_1 + 1))) else (none)) = some r := H; have A16 := zzm A160; clear A160; by_cases c17 : x3_1.length + t468.length < 1759218604441
          ·
           rw [if_pos c17] at H; have LMc17 := zzm c17; clear c17; obtain ⟨y471, hy471⟩ : ∃ y_ : List (S34), y_ = (x3_1 ++ t468) := ⟨_, rfl⟩; replace H : (impl_StableRecords.l0 k1 l0 y471 t460 (t460.length : Int) (wrap64 (x15_1 + 1))) = some r := by first | (rw [hy471]; with_reducible exact H) | (have H2_ := (Option.bind_some _ _).symm.trans H; rw [hy471]; with_reducible exact H2_) | (have H2_ := (Option.bind_some _ _).symm.trans H; with_reducible exact H2_) | with_reducible exact H | (rw [hy471]; exact H) | exact H
           have Ny471 := zzm hy471; clear hy471; have H' := zzm H; clear H; have p466 : 0 ≤ (x15_1 : Int) := zzt; have q466 : x15_1 < (t460.length : Int) := zzt; obtain ⟨ad466, e466, hx466_0⟩ := Kd.at_int (Kd.R_reads' HO_13.out).2.2 x15_1 p466 q466; cases e466; replace p466 := eq_true p466; replace q466 := eq_true q466; have p467 : 0 ≤ (x15_1 : Int) := zzt; have q467 : x15_1 < (l0.length : Int) := zzt; obtain ⟨ad467, A467_5, c467_5, e467, hx467_0, hx467_1, hx467_2, hx467_3, hx467_4, hx467_5, hl467_5, hi467_5⟩ := at_T27 HR0.out x15_1 p467 q467; cases e467; replace hx467_0 := zzx HB.out hx467_0; replace hx467_1 := zzx HB.out hx467_1; replace hx467_2 := zzx HB.out hx467_2; replace hx467_3 := zzx HB.out hx467_3; replace hx467_4 := zzx HB.out hx467_4; replace hx467_5 := zzx HB.out hx467_5; have HR467_5 := zzm hi467_5; have HC467_5 := zzm hl467_5; clear hi467_5 hl467_5; replace p467 := eq_true p467; replace q467 := eq_true q467; go_wp2_with (first | ((with_reducible refine gate_callee (f := 72) rfl ?_); refine goesL_ (some 30) rfl rfl Try.func72 (by kernel_rfl) rfl #[.slice A467_5 ((rd_T27 l0 x15_1).f5).length c467_5] rfl (by (try simp only [List.map_toArray, List.map_cons, List.map_nil]); first | done | rfl | (simp only [List.length_drop, List.length_take]; rfl)) ?_; (with_reducible refine (impl_copyRecords.calls k1 _ _ ((rd_T27 l0 x15_1).f5) t468 _ ?side1 ?side2 A16.out).mono ?_); (case side1 => repeat (first | exact (Kd.C_below HR467_5.out HB.out) | (with_reducible refine Kd.C_alloc ?_ _) | (with_reducible refine Kd.C_drewN ?_ _) | (with_reducible refine Kd.C_drew ?_))); (case side2 => exact HC467_5.out); rintro e w18 ⟨v469, rfl, ho0, hb⟩; refine ⟨_, rfl, ?_⟩; have n0_ := zzm (Kd.N_elder' (by (with_reducible repeat (first | apply Kd.N_alloc | apply Kd.N_drewN | apply Kd.N_drew)); exact HO_3.out) (by first | exact Kd.N_base ho0 | exact Kd.S_base ho0 | exact Kd.R_base ho0) hb); have n1_ := zzm (Kd.R_below (by (with_reducible repeat (first | apply Kd.R_alloc | apply Kd.R_drewN | apply Kd.R_drew)); exact HO_13.out) hb); have n2_ := zzm (Kd.N_lower (Kd.N_mono (ok' := fun k_ => (w.heap.size ≤ k_) ∧ some k_ ≠ (u3 : Value).ownBlock ∧ some k_ ≠ (.slice (some ad466) t460.length co9 : Value).ownBlock) (Kd.S_N (Kd.S_bound ho0)) (fun k_ hk_ => ⟨(Nat.le_trans (zzo zzh1) hk_.2.1), (Kd.fresh' (Kd.N_lt (by (with_reducible repeat (first | apply Kd.N_alloc | apply Kd.N_drewN | apply Kd.N_drew)); exact HO_3.out)) k_ hk_.2.1), (Kd.fresh' (Kd.R_lt (by (with_reducible repeat (first | apply Kd.R_alloc | apply Kd.R_drewN | apply Kd.R_drew)); exact HO_13.out)) k_ hk_.2.1)⟩)) (zzo zzh1)); have n3_ := zzm (zzp zzh1 hb); clear HO_3 HO_13 HB; have HO_3 := n0_; have HO_13 := n1_; have HO470 := n2_; have HB := n3_; clear n0_ n1_ n2_ n3_; (try clear hb); (try clear hb2); (try clear hk); (try clear hi); (try clear ho0); obtain ⟨Ao20, co20, eo20⟩ := Kd.N_slice HO470.out; subst eo20) | ((with_reducible refine gate_builtin (b := .append) (xs := #[.tmp 24, .tmp 30]) rfl ?_); at_builtin; refine Kd.N_append_rows k34 (w0 := w) w.heap.size rfl (.tmp 24) (.tmp 30) 25 34 (.agg #[(.int .i64 0), (.int .i64 0), (.bool false), (.slice none 0 0), (.bool false), (.slice none 0 0)]) 80 rfl Try.underlying25 info34 rfl (by decide) (by omega) u3 x3_1 t468 _ _ _ (fun k_ => (w.heap.size ≤ k_) ∧ some k_ ≠ (.slice (some ad466) t460.length co9 : Value).ownBlock) (fun k_ => ((fun k_ => (w.heap.size ≤ k_) ∧ some k_ ≠ (.slice (some ad466) t460.length co9 : Value).ownBlock)) k_ ∧ some k_ ≠ (u3 : Value).ownBlock) rfl rfl ?aO ?aR (fun _ hk => hk) ?aF ?aB ?aS ?aL ?_; (case aR => exact (by skip; exact Kd.N_F (Kd.N_mono (ok' := (fun k_ => ((fun k_ => (w.heap.size ≤ k_) ∧ some k_ ≠ (.slice (some ad466) t460.length co9 : Value).ownBlock)) k_ ∧ some k_ ≠ (u3 : Value).ownBlock)) (HO470.out) (fun k_ hk => ⟨⟨hk.1, hk.2.2⟩, hk.2.1⟩)))); (case aB => exact zzh1); (case aF => exact (fun k_ hk => ⟨(Nat.le_trans (zzo zzh1) hk), Kd.fresh' (Kd.R_lt (by (with_reducible repeat (first | apply Kd.R_alloc | apply Kd.R_drewN | apply Kd.R_drew)); exact HO_13.out)) k_ hk⟩)); (case aO => exact (by (with_reducible repeat (first | apply Kd.N_alloc | apply Kd.N_drewN | apply Kd.N_drew)); exact Kd.N_mono HO_3.out (fun _ hk => ⟨hk.1.1, hk.1.2⟩))); (case aS => exact (zzo zzh1)); (case aL => have := LMc17.out; omega); intro v472 w19 ho hb hg hat; rw [← Ny471.out] at ho; have n0_ := zzm (Kd.R_over' (by (with_reducible repeat (first | apply Kd.R_alloc | apply Kd.R_drewN | apply Kd.R_drew)); exact HO_13.out) (Kd.N_typed (by (with_reducible repeat (first | apply Kd.N_alloc | apply Kd.N_drewN | apply Kd.N_drew)); exact HO_3.out)) (by decide) hg); have n1_ := zzm (Kd.N_afterv (ok := (fun k_ => (w.heap.size ≤ k_) ∧ some k_ ≠ (.slice (some ad466) t460.length co9 : Value).ownBlock)) (by (with_reducible repeat (first | apply Kd.N_alloc | apply Kd.N_drewN | apply Kd.N_drew)); exact Kd.N_mono HO470.out (fun _ hk => ⟨⟨hk.1, hk.2.2⟩, hk.2.1⟩)) hg hat); have n2_ := zzm (hb); have n3_ := zzm (ho); clear HO_13 HO470 HB HO_3; have HO_13 := n0_; have HO470 := n1_; have HB := n2_; have HO473 := n3_; clear n0_ n1_ n2_ n3_ ho hb hg hat)); go_roundg k1
           case measure => have := HK1.out; omega
           case rel => exact ⟨(y471), (wrap64 (x15_1 + 1)), (by first | rfl | (simp; done) | (simp [*]; done)), H', ⟨by have := HK1.out; omega⟩, ⟨by (with_reducible repeat (first | apply Kd.N_alloc | apply Kd.N_drewN | apply Kd.N_drew)); exact HO473.out⟩, ⟨by (with_reducible repeat (first | apply Kd.R_alloc | apply Kd.R_drewN | apply Kd.R_drew)); exact HO_13.out⟩, ⟨zzh1⟩⟩
          ·
           rw [if_neg c17] at H; exact absurd H (by simp)
         ·
          rw [if_neg c15] at H; exact absurd H (by simp)
        ·
         rw [if_neg c14] at H; have c14b0 : ((rd t460 x15_1) == 1) = false := beq_eq_false_iff_ne.mpr c14; have c14b1 : ((rd t460 x15_1) != 1) = true := bne_iff_ne.mpr c14; have H' := zzm H; clear H; have p466 : 0 ≤ (x15_1 : Int) := zzt; have q466 : x15_1 < (t460.length : Int) := zzt; obtain ⟨ad466, e466, hx466_0⟩ := Kd.at_int (Kd.R_reads' HO_13.out).2.2 x15_1 p466 q466; cases e466; replace p466 := eq_true p466; replace q466 := eq_true q466; go_wp2; go_roundg k1
         case measure => have := HK1.out; omega
         case rel => exact ⟨(x3_1), (wrap64 (x15_1 + 1)), (by first | rfl | (simp; done) | (simp [*]; done)), H', ⟨by have := HK1.out; omega⟩, ⟨by (with_reducible repeat (first | apply Kd.N_alloc | apply Kd.N_drewN | apply Kd.N_drew)); exact HO_3.out⟩, ⟨by (with_reducible repeat (first | apply Kd.R_alloc | apply Kd.R_drewN | apply Kd.R_drew)); exact HO_13.out⟩, ⟨zzh1⟩⟩
      ·
       rw [if_neg c12] at H; exact absurd H (by simp)
     ·
      rw [if_neg c11] at H; exact absurd H (by simp)
    ·
     rw [if_neg c10] at H; have c10b0 : decide (x15_1 < (t460.length : Int)) = false := decide_eq_false c10; clear c10; obtain rfl := Option.some.inj H; go_wp2; go_ret; exact ⟨_, by first | rfl | (simp [errW_none, errW_some] <;> rfl) | (simp [*, errW_none, errW_some] <;> rfl), by (with_reducible repeat (first | apply Kd.N_alloc | apply Kd.N_drewN | apply Kd.N_drew)); exact Kd.N_mono HO_3.out (fun _ hk => hk.1), zzh1⟩
 ·
  replace c3 := Bool.eq_false_iff.mpr c3; subst c3; have H1 : (some y456) = some r := by rw [if_neg (show ¬ (false = true) by decide)] at H; exact H
  clear H; have H := H1; clear H1; obtain rfl := Option.some.inj H; go_enter Try.func37, Try.ntmps37; go_wp2_with (first | ((with_reducible refine gate_dst (N := 6) rfl ?_); refine Kd.N_lit k34 _ 34 ?hg (N' := 6) ?hd (xs := ([] : List (S34))) (inner := []) (ok := (fun k_ => (w.heap.size ≤ k_))) (okp := (fun k_ => (w.heap.size ≤ k_))) ?hr ?hp (fun _ hk => hk) ((show ∀ k_, w.heap.size ≤ k_ → (fun k_ => (w.heap.size ≤ k_)) k_ from fun k_ hk => (Nat.le_trans (zzo zzh1) hk)) _ (Nat.le_refl _)) (Below.refl _ _) (Nat.le_refl _) (by simp) ?_; (case hd => rfl); (case hg => rfl); (case hr => first | (go_simp; done) | (go_simp; rfl)); (case hp => exact (Reps.none _ _)); intro v457 w21 ho22 hb hg_ hnew_; clear hg_ hnew_; (first | rw [← Ny456.out] at ho22 | (simp only [Int.reduceToNat] at ho22; rw [← Ny456.out] at ho22)); have n0_ := zzm (Kd.N_lower ho22 (zzo zzh1)); have n1_ := zzm (zzp zzh1 hb); clear HB; have HO458 := n0_; have HB := n1_; clear n0_ n1_ hb ho22) | ((with_reducible refine gate_callee (f := 61) rfl ?_); refine goesL_ (some 8) rfl rfl Try.func61 (by kernel_rfl) rfl #[.slice A0 l0.length c0] rfl (by (try simp only [List.map_toArray, List.map_cons, List.map_nil]); first | done | rfl | (simp only [List.length_drop, List.length_take]; rfl)) ?_; (with_reducible refine (impl_LogValid.calls k _ _ l0 false _ ?side1 ?side2 A2.out).mono ?_); (case side1 => repeat (first | exact (Kd.C_below HR0.out HB.out) | (with_reducible refine Kd.C_alloc ?_ _) | (with_reducible refine Kd.C_drewN ?_ _) | (with_reducible refine Kd.C_drew ?_))); (case side2 => exact HC0.out); rintro e w23 ⟨rfl, hb⟩; refine ⟨_, rfl, ?_⟩; have n0_ := zzm (Kd.N_below (by (with_reducible repeat (first | apply Kd.N_alloc | apply Kd.N_drewN | apply Kd.N_drew)); exact HO458.out) hb); have n1_ := zzm (zzp zzh1 hb); clear HO458 HB; have HO458 := n0_; have HB := n1_; clear n0_ n1_; (try clear hb); (try clear hb2); (try clear hk); (try clear hi))); go_ret; exact ⟨_, by first | rfl | (simp [errW_none, errW_some] <;> rfl) | (simp [*, errW_none, errW_some] <;> rfl), by (with_reducible repeat (first | apply Kd.N_alloc | apply Kd.N_drewN | apply Kd.N_drew)); exact HO458.out, zzh1⟩
end Go.Proofs.Yticpnjhkdfdkkaa.T
namespace Go.Proofs.Yticpnjhkdfdkkaa.T
open Go.RowKit Go.Proofs.YticpnjhkdfdkkaaW.PrintWords Go.Proofs.YticpnjhkdfdkkaaW.PrintLast Go.Proofs.YticpnjhkdfdkkaaW.PrintMore
attribute [local go_sem] max2_int max_two
set_option linter.unusedVariables false
set_option linter.unusedSimpArgs false
def laws_allOf.l0 : Nat → List (S27) → List (S34) → Int → Option ((List (S34)))
 | 0, _, _, _ => none
 | k + 1, x0, x3, x4 => if x4 < (x0.length : Int) then (if 0 ≤ x4 then (if x3.length + ((rd_T27 x0 x4).f5).length < 1759218604441 then (laws_allOf.l0 k x0 (x3 ++ ((rd_T27 x0 x4).f5)) (wrap64 (x4 + 1))) else (none)) else (none)) else (some x3)
def laws_allOf.f (k : Nat) (l0 : List (S27)) : Option ((List (S34))) := laws_allOf.l0 k l0 (([] : List (S34))) 0
set_option maxHeartbeats 8000000 in
set_option maxRecDepth 100000 in
theorem laws_allOf.calls (k : Nat) (P0_ : Nat → Prop) (A0 : Option Addr) (c0 : Nat) (l0 : List (S27)) (r : List (S34)) (w : World) (hs0 : Kd.V k27 27 w w.heap.size (fun k_ => P0_ k_) (.slice A0 l0.length c0) l0) (h : laws_allOf.f k l0 = some r) :
  Calls Try.prog 38 #[.slice A0 l0.length c0] w fun e w' => ∃ v0_ : Value, e = .returned (v0_) ∧ Kd.N k34 34 w' w.heap.size (fun k_ => (P0_ k_ ∨ w.heap.size ≤ k_)) v0_ r ∧ Below w.heap.size w w' := by
 have HO0 := zzm (show Kd.V k27 27 w w.heap.size (fun k_ => (P0_ k_ ∨ w.heap.size ≤ k_)) (.slice A0 l0.length c0) l0 from Kd.V_mono hs0 (fun k_ hk => .inl hk)); have HB := zzm (Below.refl w.heap.size w); have H : (laws_allOf.l0 k l0 (([] : List (S34))) 0) = some r := h; clear h; obtain ⟨y474, hy474⟩ : ∃ y_ : List (S34), y_ = (([] : List (S34))) := ⟨_, rfl⟩; replace H : (laws_allOf.l0 k l0 y474 0) = some r := by first | (rw [hy474]; with_reducible exact H) | (have H2_ := (Option.bind_some _ _).symm.trans H; rw [hy474]; with_reducible exact H2_) | (have H2_ := (Option.bind_some _ _).symm.trans H; with_reducible exact H2_) | with_reducible exact H | (rw [hy474]; exact H) | exact H
 have Ny474 := zzm hy474; clear hy474; have H' := zzm H; clear H; go_enter Try.func38, Try.ntmps38; go_wp2_with (first | ((with_reducible refine gate_dst (N := 5) rfl ?_); refine Kd.N_lit k34 _ 34 ?hg (N' := 5) ?hd (xs := ([] : List (S34))) (inner := []) (ok := (fun k_ => (P0_ k_ ∨ w.heap.size ≤ k_))) (okp := (fun k_ => (P0_ k_ ∨ w.heap.size ≤ k_))) ?hr ?hp (fun _ hk => hk) ((show ∀ k_, w.heap.size ≤ k_ → (fun k_ => (P0_ k_ ∨ w.heap.size ≤ k_)) k_ from fun k_ hk => (.inr (Nat.le_trans (zzo zzh1) hk))) _ (Nat.le_refl _)) (Below.refl _ _) (Nat.le_refl _) (by simp) ?_; (case hd => rfl); (case hg => rfl); (case hr => first | (go_simp; done) | (go_simp; rfl)); (case hp => exact (Reps.none _ _)); intro v475 w2 ho3 hb hg_ hnew_; clear hg_ hnew_; (first | rw [← Ny474.out] at ho3 | (simp only [Int.reduceToNat] at ho3; rw [← Ny474.out] at ho3)); have n0_ := zzm (Kd.V_elder' (by (with_reducible repeat (first | apply Kd.V_alloc | apply Kd.V_drewN | apply Kd.V_drew)); exact HO0.out) (Kd.N_base ho3) hb); have n1_ := zzm (Kd.N_lower ho3 (zzo zzh1)); have n2_ := zzm (zzp zzh1 hb); clear HO0 HB; have HO0 := n0_; have HO476 := n1_; have HB := n2_; clear n0_ n1_ n2_ hb ho3)); go_loopg [3, 4] k (fun kq v3 v4 w' => ∃ (x3_1 : List (S34)) (x4_1 : Int), v4 = .int .i64 x4_1 ∧ Aside0 (laws_allOf.l0 kq l0 x3_1 x4_1 = some r) ∧ Aside0 (kq ≤ k) ∧ Aside0 (Kd.V k27 27 w' w.heap.size (fun k_ => (P0_ k_ ∨ w.heap.size ≤ k_) ∧ some k_ ≠ (v3 : Value).ownBlock) (.slice A0 l0.length c0) l0) ∧ Aside0 (Kd.N k34 34 w' w.heap.size (fun k_ => (P0_ k_ ∨ w.heap.size ≤ k_)) v3 x3_1) ∧ Aside0 (Below w.heap.size w w'))
 case atStart => exact ⟨(y474), (0), (by first | rfl | (simp; done) | (simp [*]; done)), H', ⟨Nat.le_refl _⟩, ⟨by (with_reducible repeat (first | apply Kd.V_alloc | apply Kd.V_drewN | apply Kd.V_drew)); exact HO0.out⟩, ⟨by (with_reducible repeat (first | apply Kd.N_alloc | apply Kd.N_drewN | apply Kd.N_drew)); exact HO476.out⟩, ⟨zzh1⟩⟩
 case round =>
  clear H'; try clear p2
  try clear c3
  obtain ⟨x3_1, x4_1, rfl, HA, HK1, HO_0, HO_3, HB⟩ := hrel; cases gk with
  | zero => exact absurd HA.out (by simp [laws_allOf.l0])
  | succ k1 =>
   have H := HA.out; clear HA; simp only [laws_allOf.l0] at H; by_cases c4 : x4_1 < (l0.length : Int)
   ·
    rw [if_pos c4] at H; have c4b0 : decide (x4_1 < (l0.length : Int)) = true := decide_eq_true c4; clear c4; by_cases c5 : 0 ≤ x4_1
    ·
     rw [if_pos c5] at H; have c5b0 : decide (0 ≤ x4_1) = true := decide_eq_true c5; clear c5; by_cases c6 : x3_1.length + ((rd_T27 l0 x4_1).f5).length < 1759218604441
     ·
      rw [if_pos c6] at H; have LMc6 := zzm c6; clear c6; obtain ⟨y478, hy478⟩ : ∃ y_ : List (S34), y_ = (x3_1 ++ ((rd_T27 l0 x4_1).f5)) := ⟨_, rfl⟩; replace H : (laws_allOf.l0 k1 l0 y478 (wrap64 (x4_1 + 1))) = some r := by first | (rw [hy478]; with_reducible exact H) | (have H2_ := (Option.bind_some _ _).symm.trans H; rw [hy478]; with_reducible exact H2_) | (have H2_ := (Option.bind_some _ _).symm.trans H; with_reducible exact H2_) | with_reducible exact H | (rw [hy478]; exact H) | exact H
      have Ny478 := zzm hy478; clear hy478; have H' := zzm H; clear H; have p477 : 0 ≤ (x4_1 : Int) := zzt; have q477 : x4_1 < (l0.length : Int) := zzt; obtain ⟨ad477, A477_5, c477_5, e477, hx477_0, hx477_1, hx477_2, hx477_3, hx477_4, hx477_5, hl477_5, hi477_5⟩ := at_T27 (Kd.V_reads' HO_0.out).2.2 x4_1 p477 q477; cases e477; obtain ⟨ce477, hce477, hMe477, hcc477⟩ := Kd.V_get HO_0.out z27 x4_1 p477 (by first | exact q477 | exact zzt | (have e_ := (Kd.V_reads' HO_0.out).1; omega)); obtain ⟨ua477_5, uc477_5, rfl, ul477_5, ge477_5⟩ := k27_openF hMe477; have hv477_5 := hcc477 5 _ rfl; rw [add_field _ _ 5 (by omega)] at hv477_5; replace hv477_5 := Option.some.inj (hv477_5.symm.trans hx477_5); injection hv477_5 with hva_ hvn_ hvc_; rw [hva_] at ge477_5; rw [hvc_] at ul477_5; have HL477_5 := zzm (show Kd.V k34 34 _ w.heap.size _ _ ((rd_T27 l0 x4_1).f5) from Kd.V_mk ul477_5 ge477_5); clear hva_ hvn_ hvc_ ge477_5 ul477_5; clear hcc477 hce477; have HR477_5 := zzm hi477_5; have HC477_5 := zzm hl477_5; clear hi477_5 hl477_5; replace p477 := eq_true p477; replace q477 := eq_true q477; go_wp2_with (first | ((with_reducible refine gate_builtin (b := .append) (xs := #[.tmp 12, .tmp 17]) rfl ?_); at_builtin; refine Kd.N_append_rows k34 (w0 := w) w.heap.size rfl (.tmp 12) (.tmp 17) 25 34 (.agg #[(.int .i64 0), (.int .i64 0), (.bool false), (.slice none 0 0), (.bool false), (.slice none 0 0)]) 80 rfl Try.underlying25 info34 rfl (by decide) (by omega) u3 x3_1 ((rd_T27 l0 x4_1).f5) _ _ _ (fun k_ => (P0_ k_ ∨ w.heap.size ≤ k_)) (fun k_ => ((fun k_ => (P0_ k_ ∨ w.heap.size ≤ k_))) k_ ∧ some k_ ≠ (u3 : Value).ownBlock) rfl rfl ?aO ?aR (fun _ hk => hk) ?aF ?aB ?aS ?aL ?_; (case aR => exact (by skip; exact Kd.V_F (Kd.V_mono (ok' := (fun k_ => ((fun k_ => (P0_ k_ ∨ w.heap.size ≤ k_))) k_ ∧ some k_ ≠ (u3 : Value).ownBlock)) (HL477_5.out) (fun k_ hk => ⟨hk.1, hk.2⟩)))); (case aB => exact zzh1); (case aF => exact (fun k_ hk => (.inr (Nat.le_trans (zzo zzh1) hk)))); (case aO => exact (by (with_reducible repeat (first | apply Kd.N_alloc | apply Kd.N_drewN | apply Kd.N_drew)); exact HO_3.out)); (case aS => exact (zzo zzh1)); (case aL => have := LMc6.out; omega); intro v479 w7 ho hb hg hat; rw [← Ny478.out] at ho; have n0_ := zzm (Kd.V_afterv (ok := (fun k_ => (P0_ k_ ∨ w.heap.size ≤ k_))) (by (with_reducible repeat (first | apply Kd.V_alloc | apply Kd.V_drewN | apply Kd.V_drew)); exact HO_0.out) hg hat); have n1_ := zzm (Kd.V_afterv (ok := (fun k_ => (P0_ k_ ∨ w.heap.size ≤ k_))) (by (with_reducible repeat (first | apply Kd.V_alloc | apply Kd.V_drewN | apply Kd.V_drew)); exact HL477_5.out) hg hat); have n2_ := zzm (hb); have n3_ := zzm (ho); clear HO_0 HL477_5 HB HO_3; have HO_0 := n0_; have HL477_5 := n1_; have HB := n2_; have HO480 := n3_; clear n0_ n1_ n2_ n3_ ho hb hg hat)); go_roundg k1
      case measure => have := HK1.out; omega
      case rel => exact ⟨(y478), (wrap64 (x4_1 + 1)), (by first | rfl | (simp; done) | (simp [*]; done)), H', ⟨by have := HK1.out; omega⟩, ⟨by (with_reducible repeat (first | apply Kd.V_alloc | apply Kd.V_drewN | apply Kd.V_drew)); exact HO_0.out⟩, ⟨by (with_reducible repeat (first | apply Kd.N_alloc | apply Kd.N_drewN | apply Kd.N_drew)); exact HO480.out⟩, ⟨zzh1⟩⟩
     ·
      rw [if_neg c6] at H; exact absurd H (by simp)
    ·
     rw [if_neg c5] at H; exact absurd H (by simp)
   ·
    rw [if_neg c4] at H; have c4b0 : decide (x4_1 < (l0.length : Int)) = false := decide_eq_false c4; clear c4; obtain rfl := Option.some.inj H; go_wp2; go_ret; exact ⟨_, by first | rfl | (simp [errW_none, errW_some] <;> rfl) | (simp [*, errW_none, errW_some] <;> rfl), by (with_reducible repeat (first | apply Kd.N_alloc | apply Kd.N_drewN | apply Kd.N_drew)); exact HO_3.out, zzh1⟩
end Go.Proofs.Yticpnjhkdfdkkaa.T
namespace Go.Proofs.Yticpnjhkdfdkkaa.T
open Go.RowKit Go.Proofs.YticpnjhkdfdkkaaW.PrintWords Go.Proofs.YticpnjhkdfdkkaaW.PrintLast Go.Proofs.YticpnjhkdfdkkaaW.PrintMore
attribute [local go_sem] max2_int max_two
set_option linter.unusedVariables false
set_option linter.unusedSimpArgs false
mutual
def laws_FnStableAll.j0 : Nat → List (S27) → Int → Int → Bool → Option (Bool)
 | 0, _, _, _, _ => none
 | k + 1, x3, x4, x5, x22 => if x22 = true then (some (x4 == x5)) else (laws_FnStableAll.l0 k x3 x4 0)
def laws_FnStableAll.l0 : Nat → List (S27) → Int → Int → Option (Bool)
 | 0, _, _, _ => none
 | k + 1, x3, x4, x6 => if x6 < (x3.length : Int) then (if 0 ≤ x6 then (if ((rd_T27 x3 x6).f2) = 255 then (laws_FnStableAll.l0 k x3 x4 (wrap64 (x6 + 1))) else ((impl_ReadEnd.f k x3).bind fun t487 => (some (decide (x4 ≤ t487))))) else (none)) else ((impl_ReadEnd.f k x3).bind fun t488 => (if x4 = t488 then ((impl_StableRecords.f k x3).bind fun t489 => ((laws_allOf.f k x3).bind fun t492 => ((laws_sameRecords.f k t489 t492).bind fun t495 => (some t495)))) else (some false)))
end
def laws_FnStableAll.f (k : Nat) (l0 : List Int) : Option (Bool) := if (l0.length : Int) > 1048576 then (some true) else ((spec_DrawStableEnd.f k l0).bind fun t481 => ((impl_StableEnd.f k t481).bind fun t484 => ((spec_StableEnd.f k t481).bind fun t485 => (if t484 = t485 then (laws_FnStableAll.j0 k t481 t484 t485 (decide (t485 < 0))) else (laws_FnStableAll.j0 k t481 t484 t485 true)))))
set_option maxHeartbeats 8000000 in
set_option maxRecDepth 100000 in
theorem laws_FnStableAll.calls (k : Nat) (A0 : Option Addr) (c0 : Nat) (l0 : List Int) (r : Bool) (w : World) (hr0 : Kd.C (Kd.int .u8) w A0 l0.length l0) (hc0 : l0.length ≤ c0) (h : laws_FnStableAll.f k l0 = some r) :
  Calls Try.prog 12 #[.slice A0 l0.length c0] w fun e w' => e = .returned (.bool r) ∧ Below w.heap.size w w' := by
 have HR0 := zzm hr0; have HC0 := zzm hc0; clear hr0 hc0; have HB := zzm (Below.refl w.heap.size w); have H : (if (l0.length : Int) > 1048576 then (some true) else ((spec_DrawStableEnd.f k l0).bind fun t481 => ((impl_StableEnd.f k t481).bind fun t484 => ((spec_StableEnd.f k t481).bind fun t485 => (if t484 = t485 then (laws_FnStableAll.j0 k t481 t484 t485 (decide (t485 < 0))) else (laws_FnStableAll.j0 k t481 t484 t485 true)))))) = some r := h; clear h; by_cases c2 : (l0.length : Int) > 1048576
 ·
  rw [if_pos c2] at H; have c2b0 : decide (1048576 < (l0.length : Int)) = true := decide_eq_true c2; have c2b1 : decide (1048576 < l0.length) = true := decide_eq_true (by omega); clear c2; obtain rfl := Option.some.inj H; go_enter Try.func12, Try.ntmps12; go_wp2; go_ret; exact ⟨by first | rfl | (simp [errW_none, errW_some] <;> rfl) | (simp [*, errW_none, errW_some] <;> rfl), zzh1⟩
 ·
  rw [if_neg c2] at H; have c2b0 : decide (1048576 < (l0.length : Int)) = false := decide_eq_false c2; have c2b1 : decide (1048576 < l0.length) = false := decide_eq_false (by omega); clear c2; replace H := Option.bind_eq_some_iff.mp H; obtain ⟨t481, A30, H⟩ := H; replace H : ((impl_StableEnd.f k t481).bind fun t484 => ((spec_StableEnd.f k t481).bind fun t485 => (if t484 = t485 then (laws_FnStableAll.j0 k t481 t484 t485 (decide (t485 < 0))) else (laws_FnStableAll.j0 k t481 t484 t485 true)))) = some r := H; have A3 := zzm A30; clear A30; replace H := Option.bind_eq_some_iff.mp H; obtain ⟨t484, A40, H⟩ := H; replace H : ((spec_StableEnd.f k t481).bind fun t485 => (if t484 = t485 then (laws_FnStableAll.j0 k t481 t484 t485 (decide (t485 < 0))) else (laws_FnStableAll.j0 k t481 t484 t485 true))) = some r := H; have A4 := zzm A40; clear A40; replace H := Option.bind_eq_some_iff.mp H; obtain ⟨t485, A50, H⟩ := H; replace H : (if t484 = t485 then (laws_FnStableAll.j0 k t481 t484 t485 (decide (t485 < 0))) else (laws_FnStableAll.j0 k t481 t484 t485 true)) = some r := H; have A5 := zzm A50; clear A50; have HC6 := zzm H; clear H; go_enter Try.func12, Try.ntmps12; go_upto_region 6 with (first | ((with_reducible refine gate_callee (f := 27) rfl ?_); refine goesL_ (some 11) rfl rfl Try.func27 (by kernel_rfl) rfl #[.slice A0 l0.length c0] rfl (by (try simp only [List.map_toArray, List.map_cons, List.map_nil]); first | done | rfl | (simp only [List.length_drop, List.length_take]; rfl)) ?_; (with_reducible refine (spec_DrawStableEnd.calls k _ _ l0 t481 _ ?side1 ?side2 A3.out).mono ?_); (case side1 => repeat (first | exact HR0.out | (with_reducible refine Kd.C_alloc ?_ _) | (with_reducible refine Kd.C_drewN ?_ _) | (with_reducible refine Kd.C_drew ?_))); (case side2 => exact HC0.out); rintro e w7 ⟨v482, rfl, ho0, hb⟩; refine ⟨_, rfl, ?_⟩; have n0_ := zzm (Kd.N_lower (Kd.N_mono (ok' := fun k_ => True) ho0 (fun k_ hk_ => trivial)) (zzo zzh1)); have n1_ := zzm (zzp zzh1 hb); clear HB; have HO483 := n0_; have HB := n1_; clear n0_ n1_; (try clear hb); (try clear hb2); (try clear hk); (try clear hi); (try clear ho0); obtain ⟨Ao8, co8, eo8⟩ := Kd.N_slice HO483.out; subst eo8) | ((with_reducible refine gate_callee (f := 28) rfl ?_); refine goesL_ (some 13) rfl rfl Try.func28 (by kernel_rfl) rfl #[.slice Ao8 t481.length co8] rfl (by (try simp only [List.map_toArray, List.map_cons, List.map_nil]); first | done | rfl | (simp only [List.length_drop, List.length_take]; rfl)) ?_; (with_reducible refine (impl_StableEnd.calls k _ _ t481 t484 _ ?side1 ?side2 A4.out).mono ?_); (case side1 => repeat (first | exact (Kd.N_reads' HO483.out).2.2 | (with_reducible refine Kd.C_alloc ?_ _) | (with_reducible refine Kd.C_drewN ?_ _) | (with_reducible refine Kd.C_drew ?_))); (case side2 => exact (Kd.N_reads' HO483.out).2.1); rintro e w9 ⟨rfl, hb⟩; refine ⟨_, rfl, ?_⟩; have n0_ := zzm (Kd.N_below (by (with_reducible repeat (first | apply Kd.N_alloc | apply Kd.N_drewN | apply Kd.N_drew)); exact HO483.out) hb); have n1_ := zzm (zzp zzh1 hb); clear HO483 HB; have HO483 := n0_; have HB := n1_; clear n0_ n1_; (try clear hb); (try clear hb2); (try clear hk); (try clear hi)) | ((with_reducible refine gate_callee (f := 29) rfl ?_); refine goesL_ (some 15) rfl rfl Try.func29 (by kernel_rfl) rfl #[.slice Ao8 t481.length co8] rfl (by (try simp only [List.map_toArray, List.map_cons, List.map_nil]); first | done | rfl | (simp only [List.length_drop, List.length_take]; rfl)) ?_; (with_reducible refine (spec_StableEnd.calls k _ _ t481 t485 _ ?side1 ?side2 A5.out).mono ?_); (case side1 => repeat (first | exact (Kd.N_reads' HO483.out).2.2 | (with_reducible refine Kd.C_alloc ?_ _) | (with_reducible refine Kd.C_drewN ?_ _) | (with_reducible refine Kd.C_drew ?_))); (case side2 => exact (Kd.N_reads' HO483.out).2.1); rintro e w10 ⟨rfl, hb⟩; refine ⟨_, rfl, ?_⟩; have n0_ := zzm (Kd.N_below (by (with_reducible repeat (first | apply Kd.N_alloc | apply Kd.N_drewN | apply Kd.N_drew)); exact HO483.out) hb); have n1_ := zzm (zzp zzh1 hb); clear HO483 HB; have HO483 := n0_; have HB := n1_; clear n0_ n1_; (try clear hb); (try clear hb2); (try clear hk); (try clear hi))); (try simp only [Act.put, zzq, zzr, zzs]); go_cut [22] (fun v22 wc => ∃ (kq : Nat) (x22_5 : Bool), v22 = .bool x22_5 ∧ Aside0 (laws_FnStableAll.j0 kq t481 t484 t485 x22_5 = some r) ∧ Aside0 (kq ≤ k) ∧ Aside0 (Kd.N k27 27 wc w.heap.size (fun _ => True) (.slice Ao8 t481.length co8) t481) ∧ Aside0 (Below w.heap.size w wc))
  case first =>
   have H := HC6.out; clear HC6; by_cases c11 : t484 = t485
   ·
    rw [if_pos c11] at H; have c11b0 : (t484 == t485) = true := beq_iff_eq.mpr c11; have c11b1 : (t484 != t485) = false := bne_eq_false_iff_eq.mpr c11; clear c11; (first | rw [c11b0] | (simp only [i64_w, i32_w]; rw [c11b0]) | skip); have H' := zzm H; clear H; go_wp2; go_meet
    case rel => exact ⟨_, (decide (t485 < 0)), (by first | rfl | (simp; done) | (simp [*]; done)), H', ⟨by first | omega | exact Nat.le_refl _⟩, ⟨by (with_reducible repeat (first | apply Kd.N_alloc | apply Kd.N_drewN | apply Kd.N_drew)); exact HO483.out⟩, ⟨zzh1⟩⟩
   ·
    rw [if_neg c11] at H; have c11b0 : (t484 == t485) = false := beq_eq_false_iff_ne.mpr c11; have c11b1 : (t484 != t485) = true := bne_iff_ne.mpr c11; (first | rw [c11b0] | (simp only [i64_w, i32_w]; rw [c11b0]) | skip); have H' := zzm H; clear H; go_wp2; go_meet
    case rel => exact ⟨_, (true), (by first | rfl | (simp; done) | (simp [*]; done)), H', ⟨by first | omega | exact Nat.le_refl _⟩, ⟨by (with_reducible repeat (first | apply Kd.N_alloc | apply Kd.N_drewN | apply Kd.N_drew)); exact HO483.out⟩, ⟨zzh1⟩⟩
  case rest =>
   clear HC6; try clear c1
   try clear c2
   try clear c2b0
   try clear c2b1
   try clear p2
   try clear c11
   try clear c11b0
   try clear c11b1
   obtain ⟨kq, x22_5, rfl, HA, HJ5, HO_3, HB⟩ := hcut; cases kq with
   | zero => exact absurd HA.out (by simp [laws_FnStableAll.j0])
   | succ kj5 =>
    have H := HA.out; clear HA; simp only [laws_FnStableAll.j0] at H; by_cases c12 : x22_5 = true
    ·
     subst c12; have H1 : (some (t484 == t485)) = some r := by rw [if_pos rfl] at H; exact H
     clear H; have H := H1; clear H1; obtain rfl := Option.some.inj H; go_wp2; go_ret; exact ⟨by first | rfl | (simp [errW_none, errW_some] <;> rfl) | (simp [*, errW_none, errW_some] <;> rfl), zzh1⟩
    ·
     replace c12 := Bool.eq_false_iff.mpr c12; subst c12; have H1 : (laws_FnStableAll.l0 kj5 t481 t484 0) = some r := by rw [if_neg (show ¬ (false = true) by decide)] at H; exact H
     clear H; have H := H1; clear H1; have H' := zzm H; clear H; go_wp2; go_loopg [6] kj5 (fun kq v6 w' => ∃ (x6_2 : Int), v6 = .int .i64 x6_2 ∧ Aside0 (laws_FnStableAll.l0 kq t481 t484 x6_2 = some r) ∧ Aside0 (kq ≤ kj5) ∧ Aside0 (Kd.N k27 27 w' w.heap.size (fun _ => True) (.slice Ao8 t481.length co8) t481) ∧ Aside0 (Below w.heap.size w w'))
     case atStart => exact ⟨(0), (by first | rfl | (simp; done) | (simp [*]; done)), H', ⟨Nat.le_refl _⟩, ⟨by (with_reducible repeat (first | apply Kd.N_alloc | apply Kd.N_drewN | apply Kd.N_drew)); exact HO_3.out⟩, ⟨zzh1⟩⟩
     case round =>
      clear H'; try clear c1
      try clear c2
      try clear c2b0
      try clear c2b1
      try clear p2
      try clear c11
      try clear c11b0
      try clear c11b1
      try clear c12
      try clear p2
      obtain ⟨x6_2, rfl, HA, HK2, HO_3, HB⟩ := hrel; cases gk with
      | zero => exact absurd HA.out (by simp [laws_FnStableAll.l0])
      | succ k2 =>
       have H := HA.out; clear HA; simp only [laws_FnStableAll.l0] at H; by_cases c13 : x6_2 < (t481.length : Int)
       ·
        rw [if_pos c13] at H; have c13b0 : decide (x6_2 < (t481.length : Int)) = true := decide_eq_true c13; clear c13; by_cases c14 : 0 ≤ x6_2
        ·
         rw [if_pos c14] at H; have c14b0 : decide (0 ≤ x6_2) = true := decide_eq_true c14; clear c14; by_cases c15 : ((rd_T27 t481 x6_2).f2) = 255
         ·
          rw [if_pos c15] at H; have c15b0 : (((rd_T27 t481 x6_2).f2) == 255) = true := beq_iff_eq.mpr c15; have c15b1 : (((rd_T27 t481 x6_2).f2) != 255) = false := bne_eq_false_iff_eq.mpr c15; clear c15; have H' := zzm H; clear H; have p486 : 0 ≤ (x6_2 : Int) := zzt; have q486 : x6_2 < (t481.length : Int) := zzt; obtain ⟨ad486, A486_5, c486_5, e486, hx486_0, hx486_1, hx486_2, hx486_3, hx486_4, hx486_5, hl486_5, hi486_5⟩ := at_T27 (Kd.N_reads' HO_3.out).2.2 x6_2 p486 q486; cases e486; obtain ⟨ce486, hce486, hMe486, hcc486⟩ := Kd.N_get HO_3.out z27 x6_2 p486 (by first | exact q486 | exact zzt | (have e_ := (Kd.N_reads' HO_3.out).1; omega)); obtain ⟨ua486_5, uc486_5, rfl, ul486_5, ge486_5⟩ := k27_openF hMe486; have hv486_5 := hcc486 5 _ rfl; rw [add_field _ _ 5 (by omega)] at hv486_5; replace hv486_5 := Option.some.inj (hv486_5.symm.trans hx486_5); injection hv486_5 with hva_ hvn_ hvc_; rw [hva_] at ge486_5; rw [hvc_] at ul486_5; have HL486_5 := zzm (show Kd.V k34 34 _ w.heap.size _ _ ((rd_T27 t481 x6_2).f5) from Kd.V_mk ul486_5 ge486_5); clear hva_ hvn_ hvc_ ge486_5 ul486_5; clear hcc486 hce486; have HR486_5 := zzm hi486_5; have HC486_5 := zzm hl486_5; clear hi486_5 hl486_5; replace p486 := eq_true p486; replace q486 := eq_true q486; go_wp2; go_roundg k2
          case measure => have := HJ5.out; have := HK2.out; omega
          case rel => exact ⟨(wrap64 (x6_2 + 1)), (by first | rfl | (simp; done) | (simp [*]; done)), H', ⟨by have := HJ5.out; have := HK2.out; omega⟩, ⟨by (with_reducible repeat (first | apply Kd.N_alloc | apply Kd.N_drewN | apply Kd.N_drew)); exact HO_3.out⟩, ⟨zzh1⟩⟩
         ·
          rw [if_neg c15] at H; have c15b0 : (((rd_T27 t481 x6_2).f2) == 255) = false := beq_eq_false_iff_ne.mpr c15; have c15b1 : (((rd_T27 t481 x6_2).f2) != 255) = true := bne_iff_ne.mpr c15; replace H := Option.bind_eq_some_iff.mp H; obtain ⟨t487, A160, H⟩ := H; replace H : (some (decide (t484 ≤ t487))) = some r := H; have A16 := zzm A160; clear A160; obtain rfl := Option.some.inj H; have p486 : 0 ≤ (x6_2 : Int) := zzt; have q486 : x6_2 < (t481.length : Int) := zzt; obtain ⟨ad486, A486_5, c486_5, e486, hx486_0, hx486_1, hx486_2, hx486_3, hx486_4, hx486_5, hl486_5, hi486_5⟩ := at_T27 (Kd.N_reads' HO_3.out).2.2 x6_2 p486 q486; cases e486; obtain ⟨ce486, hce486, hMe486, hcc486⟩ := Kd.N_get HO_3.out z27 x6_2 p486 (by first | exact q486 | exact zzt | (have e_ := (Kd.N_reads' HO_3.out).1; omega)); obtain ⟨ua486_5, uc486_5, rfl, ul486_5, ge486_5⟩ := k27_openF hMe486; have hv486_5 := hcc486 5 _ rfl; rw [add_field _ _ 5 (by omega)] at hv486_5; replace hv486_5 := Option.some.inj (hv486_5.symm.trans hx486_5); injection hv486_5 with hva_ hvn_ hvc_; rw [hva_] at ge486_5; rw [hvc_] at ul486_5; have HL486_5 := zzm (show Kd.V k34 34 _ w.heap.size _ _ ((rd_T27 t481 x6_2).f5) from Kd.V_mk ul486_5 ge486_5); clear hva_ hvn_ hvc_ ge486_5 ul486_5; clear hcc486 hce486; have HR486_5 := zzm hi486_5; have HC486_5 := zzm hl486_5; clear hi486_5 hl486_5; replace p486 := eq_true p486; replace q486 := eq_true q486; go_wp2_with (first | ((with_reducible refine gate_callee (f := 30) rfl ?_); refine goesL_ (some 40) rfl rfl Try.func30 (by kernel_rfl) rfl #[.slice (some ad486) t481.length co8] rfl (by (try simp only [List.map_toArray, List.map_cons, List.map_nil]); first | done | rfl | (simp only [List.length_drop, List.length_take]; rfl)) ?_; (with_reducible refine (impl_ReadEnd.calls k2 _ _ t481 t487 _ ?side1 ?side2 A16.out).mono ?_); (case side1 => repeat (first | exact (Kd.N_reads' HO_3.out).2.2 | (with_reducible refine Kd.C_alloc ?_ _) | (with_reducible refine Kd.C_drewN ?_ _) | (with_reducible refine Kd.C_drew ?_))); (case side2 => exact (Kd.N_reads' HO_3.out).2.1); rintro e w17 ⟨rfl, hb⟩; refine ⟨_, rfl, ?_⟩; have n0_ := zzm (Kd.N_below (by (with_reducible repeat (first | apply Kd.N_alloc | apply Kd.N_drewN | apply Kd.N_drew)); exact HO_3.out) hb); have n1_ := zzm (Kd.V_below (by (with_reducible repeat (first | apply Kd.V_alloc | apply Kd.V_drewN | apply Kd.V_drew)); exact HL486_5.out) hb); have n2_ := zzm (Kd.C_below (by repeat (first | (with_reducible exact HR486_5.out) | (with_reducible refine Kd.C_alloc ?_ _) | (with_reducible refine Kd.C_drewN ?_ _) | (with_reducible refine Kd.C_drew ?_) | exact HR486_5.out)) hb); have n3_ := zzm (zzp zzh1 hb); clear HO_3 HL486_5 HR486_5 HB; have HO_3 := n0_; have HL486_5 := n1_; have HR486_5 := n2_; have HB := n3_; clear n0_ n1_ n2_ n3_; (try clear hb); (try clear hb2); (try clear hk); (try clear hi))); go_ret; exact ⟨by first | rfl | (simp [errW_none, errW_some] <;> rfl) | (simp [*, errW_none, errW_some] <;> rfl), zzh1⟩
        ·
         rw [if_neg c14] at H; exact absurd H (by simp)
       ·
        rw [if_neg c13] at H; have c13b0 : decide (x6_2 < (t481.length : Int)) = false := decide_eq_false c13; clear c13; replace H := Option.bind_eq_some_iff.mp H; obtain ⟨t488, A180, H⟩ := H; replace H : (if t484 = t488 then ((impl_StableRecords.f k2 t481).bind fun t489 => ((laws_allOf.f k2 t481).bind fun t492 => ((laws_sameRecords.f k2 t489 t492).bind fun t495 => (some t495)))) else (some false)) = some r := H; have A18 := zzm A180; clear A180; by_cases c19 : t484 = t488
        ·
         rw [if_pos c19] at H; have c19b0 : (t484 == t488) = true := beq_iff_eq.mpr c19; have c19b1 : (t484 != t488) = false := bne_eq_false_iff_eq.mpr c19; clear c19; replace H := Option.bind_eq_some_iff.mp H; obtain ⟨t489, A200, H⟩ := H; replace H : ((laws_allOf.f k2 t481).bind fun t492 => ((laws_sameRecords.f k2 t489 t492).bind fun t495 => (some t495))) = some r := H; have A20 := zzm A200; clear A200; replace H := Option.bind_eq_some_iff.mp H; obtain ⟨t492, A210, H⟩ := H; replace H : ((laws_sameRecords.f k2 t489 t492).bind fun t495 => (some t495)) = some r := H; have A21 := zzm A210; clear A210; replace H := Option.bind_eq_some_iff.mp H; obtain ⟨t495, A220, H⟩ := H; replace H : (some t495) = some r := H; have A22 := zzm A220; clear A220; obtain rfl := Option.some.inj H; go_wp2_with (first | ((with_reducible refine gate_callee (f := 30) rfl ?_); refine goesL_ (some 44) rfl rfl Try.func30 (by kernel_rfl) rfl #[.slice Ao8 t481.length co8] rfl (by (try simp only [List.map_toArray, List.map_cons, List.map_nil]); first | done | rfl | (simp only [List.length_drop, List.length_take]; rfl)) ?_; (with_reducible refine (impl_ReadEnd.calls k2 _ _ t481 t488 _ ?side1 ?side2 A18.out).mono ?_); (case side1 => repeat (first | exact (Kd.N_reads' HO_3.out).2.2 | (with_reducible refine Kd.C_alloc ?_ _) | (with_reducible refine Kd.C_drewN ?_ _) | (with_reducible refine Kd.C_drew ?_))); (case side2 => exact (Kd.N_reads' HO_3.out).2.1); rintro e w23 ⟨rfl, hb⟩; refine ⟨_, rfl, ?_⟩; have n0_ := zzm (Kd.N_below (by (with_reducible repeat (first | apply Kd.N_alloc | apply Kd.N_drewN | apply Kd.N_drew)); exact HO_3.out) hb); have n1_ := zzm (zzp zzh1 hb); clear HO_3 HB; have HO_3 := n0_; have HB := n1_; clear n0_ n1_; (try clear hb); (try clear hb2); (try clear hk); (try clear hi)) | (go_at_call 37; (with_reducible refine (impl_StableRecords.calls k2 _ _ t481 t489 _ ?side1 ?side2 A20.out).mono ?_); (case side1 => repeat (first | exact (Kd.N_reads' HO_3.out).2.2 | (with_reducible refine Kd.C_alloc ?_ _) | (with_reducible refine Kd.C_drewN ?_ _) | (with_reducible refine Kd.C_drew ?_))); (case side2 => exact (Kd.N_reads' HO_3.out).2.1); rintro e w24 ⟨v490, rfl, ho0, hb⟩; have n0_ := zzm (Kd.N_elder' (by (with_reducible repeat (first | apply Kd.N_alloc | apply Kd.N_drewN | apply Kd.N_drew)); exact HO_3.out) (Kd.N_base ho0) hb); have n1_ := zzm (Kd.N_lower (Kd.N_mono (ok' := fun k_ => some k_ ≠ (.slice Ao8 t481.length co8 : Value).ownBlock) ho0 (fun k_ hk_ => (Kd.fresh' (Kd.N_lt (by (with_reducible repeat (first | apply Kd.N_alloc | apply Kd.N_drewN | apply Kd.N_drew)); exact HO_3.out)) k_ hk_))) (zzo zzh1)); have n2_ := zzm (zzp zzh1 hb); clear HO_3 HB; have HO_3 := n0_; have HO491 := n1_; have HB := n2_; clear n0_ n1_ n2_; (try clear hb); (try clear hb2); (try clear hk); (try clear hi); (try clear ho0)) | (go_at_call 38; (with_reducible refine (laws_allOf.calls k2 (fun k_ => (True ∧ some k_ ≠ (v490 : Value).ownBlock)) _ _ t481 t492 _ ?side1 A21.out).mono ?_); (case side1 => exact Kd.N_V (HO_3.out)); rintro e w25 ⟨v493, rfl, ho0, hb⟩; have n0_ := zzm (Kd.N_elder' (by (with_reducible repeat (first | apply Kd.N_alloc | apply Kd.N_drewN | apply Kd.N_drew)); exact HO_3.out) (Kd.N_base ho0) hb); have n1_ := zzm (Kd.N_elder' (by (with_reducible repeat (first | apply Kd.N_alloc | apply Kd.N_drewN | apply Kd.N_drew)); exact HO491.out) (Kd.N_base ho0) hb); have n2_ := zzm (Kd.N_lower (Kd.N_mono (ok' := fun k_ => some k_ ≠ (v490 : Value).ownBlock) ho0 (fun k_ hk_ => Or.elim hk_ (fun hs_ => hs_.2) (fun hn_ => (Kd.fresh' (Kd.N_lt (by (with_reducible repeat (first | apply Kd.N_alloc | apply Kd.N_drewN | apply Kd.N_drew)); exact HO491.out)) k_ hn_)))) (zzo zzh1)); have n3_ := zzm (zzp zzh1 hb); clear HO_3 HO491 HB; have HO_3 := n0_; have HO491 := n1_; have HO494 := n2_; have HB := n3_; clear n0_ n1_ n2_ n3_; (try clear hb); (try clear hb2); (try clear hk); (try clear hi); (try clear ho0); obtain ⟨Ao26, co26, eo26⟩ := Kd.N_slice HO491.out; subst eo26; obtain ⟨Ao27, co27, eo27⟩ := Kd.N_slice HO494.out; subst eo27) | (go_at_call 36; (with_reducible refine (laws_sameRecords.calls k2 _ _ t489 _ _ t492 t495 _ ?side1 ?side2 ?side3 ?side4 A22.out).mono ?_); (case side1 => repeat (first | exact (Kd.N_reads' HO491.out).2.2 | (with_reducible refine Kd.C_alloc ?_ _) | (with_reducible refine Kd.C_drewN ?_ _) | (with_reducible refine Kd.C_drew ?_))); (case side2 => exact (Kd.N_reads' HO491.out).2.1); (case side3 => repeat (first | exact (Kd.N_reads' HO494.out).2.2 | (with_reducible refine Kd.C_alloc ?_ _) | (with_reducible refine Kd.C_drewN ?_ _) | (with_reducible refine Kd.C_drew ?_))); (case side4 => exact (Kd.N_reads' HO494.out).2.1); rintro e w28 ⟨rfl, hb⟩; have n0_ := zzm (Kd.N_below (by (with_reducible repeat (first | apply Kd.N_alloc | apply Kd.N_drewN | apply Kd.N_drew)); exact HO_3.out) hb); have n1_ := zzm (Kd.N_below (by (with_reducible repeat (first | apply Kd.N_alloc | apply Kd.N_drewN | apply Kd.N_drew)); exact HO491.out) hb); have n2_ := zzm (Kd.N_below (by (with_reducible repeat (first | apply Kd.N_alloc | apply Kd.N_drewN | apply Kd.N_drew)); exact HO494.out) hb); have n3_ := zzm (zzp zzh1 hb); clear HO_3 HO491 HO494 HB; have HO_3 := n0_; have HO491 := n1_; have HO494 := n2_; have HB := n3_; clear n0_ n1_ n2_ n3_; (try clear hb); (try clear hb2); (try clear hk); (try clear hi))); go_ret; exact ⟨by first | rfl | (simp [errW_none, errW_some] <;> rfl) | (simp [*, errW_none, errW_some] <;> rfl), zzh1⟩
        ·
         rw [if_neg c19] at H; have c19b0 : (t484 == t488) = false := beq_eq_false_iff_ne.mpr c19; have c19b1 : (t484 != t488) = true := bne_iff_ne.mpr c19; obtain rfl := Option.some.inj H; go_wp2_with (first | ((with_reducible refine gate_callee (f := 30) rfl ?_); refine goesL_ (some 44) rfl rfl Try.func30 (by kernel_rfl) rfl #[.slice Ao8 t481.length co8] rfl (by (try simp only [List.map_toArray, List.map_cons, List.map_nil]); first | done | rfl | (simp only [List.length_drop, List.length_take]; rfl)) ?_; (with_reducible refine (impl_ReadEnd.calls k2 _ _ t481 t488 _ ?side1 ?side2 A18.out).mono ?_); (case side1 => repeat (first | exact (Kd.N_reads' HO_3.out).2.2 | (with_reducible refine Kd.C_alloc ?_ _) | (with_reducible refine Kd.C_drewN ?_ _) | (with_reducible refine Kd.C_drew ?_))); (case side2 => exact (Kd.N_reads' HO_3.out).2.1); rintro e w29 ⟨rfl, hb⟩; refine ⟨_, rfl, ?_⟩; have n0_ := zzm (Kd.N_below (by (with_reducible repeat (first | apply Kd.N_alloc | apply Kd.N_drewN | apply Kd.N_drew)); exact HO_3.out) hb); have n1_ := zzm (zzp zzh1 hb); clear HO_3 HB; have HO_3 := n0_; have HB := n1_; clear n0_ n1_; (try clear hb); (try clear hb2); (try clear hk); (try clear hi))); go_ret; exact ⟨by first | rfl | (simp [errW_none, errW_some] <;> rfl) | (simp [*, errW_none, errW_some] <;> rfl), zzh1⟩
def laws_FnStableAll.Pure : Prop := ∀ (l0 : List Int), l0.length ≤ maxLen → l0.length * 1 ≤ 140737488351232 → (∀ x ∈ l0, (Lit.int .u8 x).wf = true) → ∃ k, laws_FnStableAll.f k l0 = some true
theorem laws_FnStableAll.walk (P : laws_FnStableAll.Pure) (a0 : Option Addr) (len0 cap0 : Nat) (z0 : List Int) (w : World) (w0 : (a0 = none ∧ len0 = 0 ∧ cap0 = 0 ∧ z0 = []) ∨ ∃ x, a0 = some x ∧ len0 ≤ cap0 ∧ cap0 ≤ maxLen ∧ z0.length = cap0 ∧ (∀ i, i < z0.length → w.cell? (x.add i) = some (.int .u8 (z0.getD i 0))) ∧ ∀ n ∈ z0, (Lit.int .u8 n).wf = true) (y0 : len0 * 1 ≤ 140737488351232) :
  Calls Try.prog 12 #[.slice a0 len0 cap0] w fun e w' => e = .returned (.bool true) ∧ Below w.heap.size w w' := by
 obtain ⟨l0, rfl, hr0, hm0, hw0, hc0⟩ := ReadsInt.ofRowC w0; obtain ⟨k, h⟩ := P l0 hm0 y0 hw0; refine (laws_FnStableAll.calls k _ _ l0 true w (Kd.C_of_reads (d := (0 : Int)) (h1 := fun _ => rfl) hr0) hc0 h).mono ?_; rintro e w' ⟨rfl, hd⟩; exact ⟨rfl, hd⟩
end Go.Proofs.Yticpnjhkdfdkkaa.T
namespace Go.Proofs.Yticpnjhkdfdkkaa.Q
open Go.RowKit Go.Proofs.YticpnjhkdfdkkaaW.PrintWords
set_option linter.unusedVariables false
set_option linter.unusedSimpArgs false
theorem ev_succ {α : Type} {g : Nat → Option α} {r : α} (h : Ev (fun k => g (k + 1)) r) : Ev g r := Ev.step (f := fun k => g (k + 1)) (fun _ => rfl) h
theorem ev_of_all {α : Type} {g : Nat → Option α} {r : α} (h : ∀ k, g k = some r) : Ev g r := ⟨0, fun k _ => h k⟩
theorem ev_some {α : Type} (r : α) : Ev (fun _ => some r) r := ev_of_all fun _ => rfl
def Evs {α : Type} (g : Nat → Option α) (Q : α → Prop) : Prop := ∃ r, Ev g r ∧ Q r
theorem Evs.of {α : Type} {g : Nat → Option α} {Q : α → Prop} {r : α} (h : Ev g r) (hq : Q r) : Evs g Q := ⟨r, h, hq⟩
theorem Evs.done {α : Type} {Q : α → Prop} {r : α} (hq : Q r) : Evs (fun _ => some r) Q := ⟨r, ev_some r, hq⟩
theorem Evs.mono {α : Type} {g : Nat → Option α} {Q Q' : α → Prop} (h : Evs g Q) (hq : ∀ r, Q r → Q' r) : Evs g Q' := by
  obtain ⟨r, h1, h2⟩ := h
  exact ⟨r, h1, hq r h2⟩
theorem Evs.succ {α : Type} {g : Nat → Option α} {Q : α → Prop} (h : Evs (fun k => g (k + 1)) Q) : Evs g Q := by
  obtain ⟨r, h1, h2⟩ := h
  exact ⟨r, ev_succ h1, h2⟩
theorem Evs.bind {α β : Type} {g : Nat → Option α} {f : Nat → α → Option β} {Q : α → Prop} {R : β → Prop} (h : Evs g Q) (k : ∀ a, Q a → Evs (fun n => f n a) R) : Evs (fun n => (g n).bind (f n)) R := by
  obtain ⟨a, h1, h2⟩ := h
  obtain ⟨r, k1, k2⟩ := k a h2
  exact ⟨r, Ev.bind h1 k1, k2⟩
theorem bsome {α β : Type} (a : α) (f : α → Option β) : (some a).bind f = f a := Eq.trans (Option.bind_some a f) (Eq.refl _)
end Go.Proofs.Yticpnjhkdfdkkaa.Q
namespace Go.Proofs.Yticpnjhkdfdkkaa.Q
open Go.RowKit Go.Proofs.Yticpnjhkdfdkkaa.T Go.Proofs.YticpnjhkdfdkkaaW.PrintWords Go.Proofs.YticpnjhkdfdkkaaW.PrintLast
set_option linter.unusedVariables false
set_option linter.unusedSimpArgs false
theorem wrap_id {x : Int} (h0 : -9223372036854775808 ≤ x) (h1 : x < 9223372036854775808) : wrap64 x = x := by unfold wrap64; omega
theorem tmod_range {x n : Int} (h : 0 ≤ x) (hn : 1 ≤ n) : 0 ≤ Int.tmod x n ∧ Int.tmod x n < n := by
  rw [Int.tmod_eq_emod_of_nonneg h]
  exact ⟨Int.emod_nonneg _ (by omega), Int.emod_lt_of_pos _ (by omega)⟩
theorem xor_nonneg {a b : Int} (h1 : 0 ≤ a) (h2 : a < 4611686018427387904) (h3 : 0 ≤ b) (h4 : b < 4611686018427387904) : 0 ≤ Go.bits .xor .i64 a b := by
  obtain ⟨A, rfl⟩ := Int.eq_ofNat_of_zero_le h1
  obtain ⟨B, rfl⟩ := Int.eq_ofNat_of_zero_le h3
  have hx : A ^^^ B < 2 ^ 62 := Nat.xor_lt_two_pow (by omega) (by omega)
  have e1 : (BitVec.ofInt 64 (A : Int)).toNat = A := by
    rw [BitVec.ofInt_natCast, BitVec.toNat_ofNat]; exact Nat.mod_eq_of_lt (by omega)
  have e2 : (BitVec.ofInt 64 (B : Int)).toNat = B := by
    rw [BitVec.ofInt_natCast, BitVec.toNat_ofNat]; exact Nat.mod_eq_of_lt (by omega)
  show 0 ≤ IntKind.i64.wrap ((BitVec.ofInt 64 (A : Int) ^^^ BitVec.ofInt 64 (B : Int)).toNat : Int)
  rw [BitVec.toNat_xor, e1, e2]
  simp only [IntKind.wrap, IntKind.bits, IntKind.signed]
  simp
  omega
def Bytes (b : List Int) : Prop := ∀ x ∈ b, 0 ≤ x ∧ x ≤ 255
theorem rd_bytes {b : List Int} (h : Bytes b) (i : Int) : 0 ≤ rd b i ∧ rd b i ≤ 255 := by
  unfold rd
  rw [List.getD_eq_getElem?_getD]
  cases e : b[i.toNat]? with
  | none => simp
  | some x => exact h x (List.mem_of_getElem? e)
theorem pick_ev (b : List Int) (p n : Int) (hb : Bytes b) (hl : b.length ≤ 2000) (h0 : 0 ≤ p) (h1 : p ≤ 1000000000) (hn : 1 ≤ n) :
    ∃ v, Ev (fun k => spec_l6Rd_pick.f k b p n) (v, p + 1) ∧ 0 ≤ v ∧ v < n := by
  have e1 : wrap64 (p + 1) = p + 1 := wrap_id (by omega) (by omega)
  have e2 : wrap64 (p + 1 - 1) = p := by rw [wrap_id (by omega) (by omega)]; omega
  by_cases hz : b.length = 0
  · refine ⟨0, ⟨1, fun k hk => ?_⟩, by omega, by omega⟩
    obtain ⟨k, rfl⟩ : ∃ m, k = m + 1 := ⟨k - 1, by omega⟩
    show spec_l6Rd_pick.f (k + 1) b p n = _
    unfold spec_l6Rd_pick.f
    rw [if_neg (by omega), e1]
    simp [spec_l6Rd_pick.j0, hz]
  · have hz' : (((b.length : Int) == 0) = true) = False := by simp; intro h; simp [h] at hz
    by_cases hlt : p < (b.length : Int)
    · obtain ⟨r0, r1⟩ := rd_bytes hb p
      have := tmod_range (x := rd b p) r0 hn
      refine ⟨Int.tmod (rd b p) n, ⟨1, fun k hk => ?_⟩, this.1, this.2⟩
      obtain ⟨k, rfl⟩ : ∃ m, k = m + 1 := ⟨k - 1, by omega⟩
      show spec_l6Rd_pick.f (k + 1) b p n = _
      unfold spec_l6Rd_pick.f
      rw [if_neg (by omega), e1]
      simp only [spec_l6Rd_pick.j0, e2, hz']
      rw [if_neg (by simp), if_pos hlt, if_pos h0, if_neg (by omega), wrap_id (by omega) (by omega)]
    · obtain ⟨q0, q1⟩ := tmod_range (x := p) (n := (b.length : Int)) h0 (by omega)
      obtain ⟨r0, r1⟩ := rd_bytes hb (Int.tmod p (b.length : Int))
      have f1 : wrap64 (p * 7) = p * 7 := wrap_id (by omega) (by omega)
      have f2 : wrap64 (p * 7 + 3) = p * 7 + 3 := wrap_id (by omega) (by omega)
      obtain ⟨q2, q3⟩ := tmod_range (x := p * 7 + 3) (n := (b.length : Int)) (by omega) (by omega)
      obtain ⟨r2, r3⟩ := rd_bytes hb (Int.tmod (p * 7 + 3) (b.length : Int))
      have d0 : 0 ≤ Int.tdiv p (b.length : Int) ∧ Int.tdiv p (b.length : Int) ≤ p := by
        rw [Int.tdiv_eq_ediv_of_nonneg h0]
        exact ⟨Int.ediv_nonneg h0 (by omega), Int.ediv_le_self _ h0⟩
      obtain ⟨x, hx⟩ : ∃ x, x = rd b (Int.tmod p (b.length : Int)) := ⟨_, rfl⟩
      obtain ⟨y, hy⟩ : ∃ y, y = rd b (Int.tmod (p * 7 + 3) (b.length : Int)) := ⟨_, rfl⟩
      obtain ⟨z, hz2⟩ : ∃ z, z = Int.tdiv p (b.length : Int) := ⟨_, rfl⟩
      obtain ⟨s, hs⟩ : ∃ s, s = x * 131 + y * 1117 + p * 29 + z * 53 := ⟨_, rfl⟩
      rw [← hx] at r0 r1
      rw [← hy] at r2 r3
      rw [← hz2] at d0
      have s0 : 0 ≤ s ∧ s < 4611686018427387904 := by omega
      have t0 : 0 ≤ Int.tdiv s 64 ∧ Int.tdiv s 64 ≤ s := by
        rw [Int.tdiv_eq_ediv_of_nonneg s0.1]
        exact ⟨Int.ediv_nonneg s0.1 (by omega), Int.ediv_le_self _ s0.1⟩
      have w1 : wrap64 x = x := wrap_id (by omega) (by omega)
      have w2 : wrap64 y = y := wrap_id (by omega) (by omega)
      have w3 : wrap64 z = z := wrap_id (by omega) (by omega)
      have w4 : wrap64 (x * 131) = x * 131 := wrap_id (by omega) (by omega)
      have w5 : wrap64 (y * 1117) = y * 1117 := wrap_id (by omega) (by omega)
      have w6 : wrap64 (p * 29) = p * 29 := wrap_id (by omega) (by omega)
      have w7 : wrap64 (z * 53) = z * 53 := wrap_id (by omega) (by omega)
      have w8 : wrap64 (x * 131 + y * 1117) = x * 131 + y * 1117 := wrap_id (by omega) (by omega)
      have w9 : wrap64 (x * 131 + y * 1117 + p * 29) = x * 131 + y * 1117 + p * 29 := wrap_id (by omega) (by omega)
      have wa : wrap64 (x * 131 + y * 1117 + p * 29 + z * 53) = s := by rw [hs]; exact wrap_id (by omega) (by omega)
      have wb : wrap64 (Int.tdiv s 64) = Int.tdiv s 64 := wrap_id (by omega) (by omega)
      have := tmod_range (x := Go.bits .xor .i64 s (Int.tdiv s 64)) (n := n) (xor_nonneg s0.1 s0.2 t0.1 (by omega)) hn
      refine ⟨_, ⟨1, fun k hk => ?_⟩, this.1, this.2⟩
      obtain ⟨k, rfl⟩ : ∃ m, k = m + 1 := ⟨k - 1, by omega⟩
      show spec_l6Rd_pick.f (k + 1) b p n = _
      unfold spec_l6Rd_pick.f
      rw [if_neg (by omega), e1]
      simp only [spec_l6Rd_pick.j0, e2, hz', f1, f2]
      rw [if_neg (by simp), if_neg hlt, if_neg (by omega), if_pos q0, if_pos q1, if_pos q2, if_pos q3, if_neg (by omega), ← hx, ← hy, ← hz2, w1, w2, w3, w4, w5, w6, w7, w8, w9, wa, wb]
theorem pick_evs (b : List Int) (p n : Int) (hb : Bytes b) (hl : b.length ≤ 2000) (h0 : 0 ≤ p) (h1 : p ≤ 1000000000) (hn : 1 ≤ n) :
    Evs (fun k => spec_l6Rd_pick.f k b p n) (fun r => 0 ≤ r.1 ∧ r.1 < n ∧ r.2 = p + 1) := by
  obtain ⟨v, h, v0, v1⟩ := pick_ev b p n hb hl h0 h1 hn
  exact ⟨_, h, v0, v1, rfl⟩
end Go.Proofs.Yticpnjhkdfdkkaa.Q
namespace Go.Proofs.Yticpnjhkdfdkkaa.Q
open Go.RowKit Go.Proofs.Yticpnjhkdfdkkaa.T Go.Proofs.YticpnjhkdfdkkaaW.PrintWords Go.Proofs.YticpnjhkdfdkkaaW.PrintLast
set_option linter.unusedVariables false
set_option linter.unusedSimpArgs false
theorem impl_within_eq (a b c : Int) : impl_within.f a b c = some (decide (b ≤ a ∧ a ≤ c)) := by
  unfold impl_within.f
  by_cases h : a ≥ b
  · rw [if_pos h]
    have : (b ≤ a ∧ a ≤ c) ↔ a ≤ c := ⟨fun h => h.2, fun h' => ⟨h, h'⟩⟩
    simp [this]
  · rw [if_neg h]
    have : ¬ (b ≤ a ∧ a ≤ c) := fun h' => h h'.1
    simp [this]
theorem spec_l6In_eq (a b c : Int) : spec_l6In.f a b c = some (decide (b ≤ a ∧ a ≤ c)) := by
  unfold spec_l6In.f
  by_cases h : a ≥ b
  · rw [if_pos h]
    have : (b ≤ a ∧ a ≤ c) ↔ a ≤ c := ⟨fun h => h.2, fun h' => ⟨h, h'⟩⟩
    simp [this]
  · rw [if_neg h]
    have : ¬ (b ≤ a ∧ a ≤ c) := fun h' => h h'.1
    simp [this]
end Go.Proofs.Yticpnjhkdfdkkaa.Q
namespace Go.Proofs.Yticpnjhkdfdkkaa.Q
open Go.RowKit Go.Proofs.Yticpnjhkdfdkkaa.T Go.Proofs.YticpnjhkdfdkkaaW.PrintWords Go.Proofs.YticpnjhkdfdkkaaW.PrintLast
set_option linter.unusedVariables false
set_option linter.unusedSimpArgs false
theorem rd_nat (l : List Int) (j : Nat) (h : j < l.length) : rd l (j : Int) = l[j] := by
  unfold rd
  rw [Int.toNat_natCast, List.getD_eq_getElem?_getD, List.getElem?_eq_getElem h]
  rfl
theorem drop_int {l : List Int} {i : Nat} (h : i < l.length) : l.drop i = rd l i :: l.drop (i + 1) := by
  rw [List.drop_eq_getElem_cons h, rd_nat l i h]
def ab (l : List Int) : Bool := decide (∀ x ∈ l, 0 ≤ x ∧ x ≤ 255)
theorem ab_cons (x : Int) (l : List Int) : ab (x :: l) = (decide (0 ≤ x ∧ x ≤ 255) && ab l) := by
  rw [Bool.eq_iff_iff]
  simp [ab, List.forall_mem_cons]
theorem ab_nil : ab [] = true := by simp [ab]
theorem isByte_eq (a : Int) : impl_isByte.f a = some (decide (0 ≤ a ∧ a ≤ 255)) := by
  unfold impl_isByte.f
  by_cases h : a ≥ 0
  · rw [if_pos h]
    have : (0 ≤ a ∧ a ≤ 255) ↔ a ≤ 255 := ⟨fun h => h.2, fun h' => ⟨h, h'⟩⟩
    simp [this]
  · rw [if_neg h]
    have : ¬ (0 ≤ a ∧ a ≤ 255) := fun h' => h h'.1
    simp [this]
theorem baseValid_eq (a b : Int) : impl_baseValid.f a b = some (decide ((0 ≤ a ∧ a ≤ 99999) ∧ (0 ≤ b ∧ b ≤ 99999))) := by
  unfold impl_baseValid.f
  rw [impl_within_eq, impl_within_eq]
  by_cases h : 0 ≤ a ∧ a ≤ 99999 <;> simp [h]
theorem idValid_eqB (a : Int) : impl_idValid.f a = some (decide (0 ≤ a ∧ a ≤ 254)) := by
  unfold impl_idValid.f
  rw [impl_within_eq]
  rfl
theorem implAll_loop (l : List Int) (hl : l.length ≤ 1000000000000000) : ∀ (d i : Nat), l.length - i = d → i ≤ l.length → Ev (fun k => impl_allBytes.l0 k l (l.length : Int) (i : Int)) (ab (l.drop i)) := by
  intro d
  induction d with
  | zero =>
    intro i hd hi
    rw [show l.drop i = [] from List.drop_eq_nil_of_le (by omega), ab_nil]
    refine ev_succ ?_
    simp only [impl_allBytes.l0, if_neg (show ¬ (i : Int) < (l.length : Int) by omega)]
    exact ev_some _
  | succ d ih =>
    intro i hd hi
    have e1 : wrap64 ((i : Int) + 1) = ((i + 1 : Nat) : Int) := by rw [wrap_id (by omega) (by omega)]; omega
    rw [drop_int (show i < l.length by omega), ab_cons]
    refine ev_succ ?_
    simp only [impl_allBytes.l0, if_pos (show (i : Int) < (l.length : Int) by omega), if_pos (show (0 : Int) ≤ i by omega), isByte_eq, bsome, decide_eq_true_eq, e1]
    by_cases h : 0 ≤ rd l (i : Int) ∧ rd l (i : Int) ≤ 255
    · simp only [if_pos h, decide_eq_true h, Bool.true_and]
      exact ih (i + 1) (by omega) (by omega)
    · simp only [if_neg h, decide_eq_false h, Bool.false_and]
      exact ev_some _
theorem implAll (l : List Int) (hl : l.length ≤ 1000000000000000) : Ev (fun k => impl_allBytes.f k l) (ab l) := by
  unfold impl_allBytes.f
  have := implAll_loop l hl l.length 0 (by omega) (by omega)
  simpa using this
theorem specAll_loop (l : List Int) (hl : l.length ≤ 1000000000000000) : ∀ (d i : Nat), l.length - i = d → i ≤ l.length → Ev (fun k => spec_l1Ok.l0 k l (i : Int)) (ab (l.drop i)) := by
  intro d
  induction d with
  | zero =>
    intro i hd hi
    rw [show l.drop i = [] from List.drop_eq_nil_of_le (by omega), ab_nil]
    refine ev_succ ?_
    simp only [spec_l1Ok.l0, if_neg (show ¬ (i : Int) < (l.length : Int) by omega)]
    exact ev_some _
  | succ d ih =>
    intro i hd hi
    have e1 : wrap64 ((i : Int) + 1) = ((i + 1 : Nat) : Int) := by rw [wrap_id (by omega) (by omega)]; omega
    rw [drop_int (show i < l.length by omega), ab_cons]
    refine ev_succ ?_
    simp only [spec_l1Ok.l0, if_pos (show (i : Int) < (l.length : Int) by omega), if_pos (show (0 : Int) ≤ i by omega), spec_l6In_eq, bsome, decide_eq_true_eq, e1]
    by_cases h : 0 ≤ rd l (i : Int) ∧ rd l (i : Int) ≤ 255
    · simp only [if_pos h, decide_eq_true h, Bool.true_and]
      exact ih (i + 1) (by omega) (by omega)
    · simp only [if_neg h, decide_eq_false h, Bool.false_and]
      exact ev_some _
theorem specAll (l : List Int) (hl : l.length ≤ 1000000000000000) : Ev (fun k => spec_l1Ok.f k l) (ab l) := by
  unfold spec_l1Ok.f
  have := specAll_loop l hl l.length 0 (by omega) (by omega)
  simpa using this
def pv (has : Bool) (l : List Int) : Bool := if has = true then decide (l.length ≤ 12) && ab l else decide (l.length = 0)
theorem implPart (has : Bool) (l : List Int) (hl : l.length ≤ 1000000000000000) : Ev (fun k => impl_partValid.f k has l) (pv has l) := by
  unfold impl_partValid.f pv
  cases has with
  | true =>
    simp only [if_true]
    by_cases h : (l.length : Int) ≤ 12
    · simp only [if_pos h, decide_eq_true (show l.length ≤ 12 by omega), Bool.true_and]
      exact Ev.bind (implAll l hl) (ev_some _)
    · simp only [if_neg h, decide_eq_false (show ¬ l.length ≤ 12 by omega), Bool.false_and]
      exact ev_some _
  | false =>
    simp only [Bool.false_eq_true, if_false]
    rw [show ((l.length : Int) == 0) = decide (l.length = 0) by rw [Bool.eq_iff_iff]; simp]
    exact ev_some _
theorem specPart (has : Bool) (l : List Int) (hl : l.length ≤ 1000000000000000) : Ev (fun k => spec_l3Part.f k has l) (pv has l) := by
  unfold spec_l3Part.f pv
  cases has with
  | true =>
    simp only [if_true]
    refine Ev.bind (specAll l hl) ?_
    by_cases h : ab l = true
    · simp only [if_pos h, h, Bool.and_true]
      rw [show decide ((l.length : Int) ≤ 12) = decide (l.length ≤ 12) by rw [decide_eq_decide]; omega]
      exact ev_some _
    · simp only [if_neg h, show ab l = false by simpa using h, Bool.and_false]
      exact ev_some _
  | false =>
    simp only [Bool.false_eq_true, if_false]
    by_cases h : l.length = 0
    · simp only [if_pos (show (l.length : Int) = 0 by omega), decide_eq_true h]
      refine Ev.bind (specAll l hl) ?_
      have hn : l = [] := List.length_eq_zero_iff.1 h
      subst hn
      simp only [ab_nil, if_true]
      exact ev_some _
    · simp only [if_neg (show ¬ (l.length : Int) = 0 by omega), decide_eq_false h]
      exact ev_some _
abbrev Rc := S34
abbrev rr (l : List Rc) (i : Int) : Rc := rd_T34 l i
theorem rr_nat (l : List Rc) (j : Nat) (h : j < l.length) : rr l (j : Int) = l[j] := by
  unfold rr rd_T34
  rw [Int.toNat_natCast, List.getD_eq_getElem?_getD, List.getElem?_eq_getElem h]
  rfl
def smallR (r : Rc) : Prop := r.f3.length ≤ 1000000000000000 ∧ r.f5.length ≤ 1000000000000000
def smallRs (l : List Rc) : Prop := l.length ≤ 1000000000000000 ∧ ∀ r ∈ l, smallR r
theorem smallRs_at {l : List Rc} (h : smallRs l) (j : Nat) (hj : j < l.length) : smallR (rr l (j : Int)) := by
  rw [rr_nat l j hj]
  exact h.2 _ (List.getElem_mem hj)
def rv (r : Rc) : Bool := decide ((0 ≤ r.f0 ∧ r.f0 ≤ 99999) ∧ (0 ≤ r.f1 ∧ r.f1 ≤ 99999)) && (pv r.f2 r.f3 && pv r.f4 r.f5)
theorem implRec (r : Rc) (h : smallR r) : Ev (fun k => impl_RecordValid.f k r.f0 r.f1 r.f2 r.f3 r.f4 r.f5) (rv r) := by
  unfold impl_RecordValid.f rv
  simp only [baseValid_eq, bsome, decide_eq_true_eq]
  by_cases h0 : (0 ≤ r.f0 ∧ r.f0 ≤ 99999) ∧ (0 ≤ r.f1 ∧ r.f1 ≤ 99999)
  · simp only [if_pos h0, decide_eq_true h0, Bool.true_and]
    refine Ev.bind (implPart _ _ h.1) ?_
    by_cases h1 : pv r.f2 r.f3 = true
    · simp only [if_pos h1, h1, Bool.true_and]
      exact Ev.bind (implPart _ _ h.2) (ev_some _)
    · simp only [if_neg h1, show pv r.f2 r.f3 = false by simpa using h1, Bool.false_and]
      exact ev_some _
  · simp only [if_neg h0, decide_eq_false h0, Bool.false_and]
    exact ev_some _
theorem specRec (r : Rc) (h : smallR r) : Ev (fun k => spec_RecordValid.f k r.f0 r.f1 r.f2 r.f3 r.f4 r.f5) (rv r) := by
  unfold spec_RecordValid.f rv
  simp only [spec_l6In_eq, bsome, decide_eq_true_eq]
  by_cases h0 : 0 ≤ r.f0 ∧ r.f0 ≤ 99999
  · by_cases h1 : 0 ≤ r.f1 ∧ r.f1 ≤ 99999
    · simp only [if_pos h0, if_pos h1, decide_eq_true (show (0 ≤ r.f0 ∧ r.f0 ≤ 99999) ∧ (0 ≤ r.f1 ∧ r.f1 ≤ 99999) from ⟨h0, h1⟩), Bool.true_and]
      refine Ev.bind (specPart _ _ h.1) ?_
      by_cases h2 : pv r.f2 r.f3 = true
      · simp only [if_pos h2, h2, Bool.true_and]
        exact Ev.bind (specPart _ _ h.2) (ev_some _)
      · simp only [if_neg h2, show pv r.f2 r.f3 = false by simpa using h2, Bool.false_and]
        exact ev_some _
    · simp only [if_pos h0, if_neg h1, decide_eq_false (show ¬ ((0 ≤ r.f0 ∧ r.f0 ≤ 99999) ∧ (0 ≤ r.f1 ∧ r.f1 ≤ 99999)) from fun h => h1 h.2), Bool.false_and]
      exact ev_some _
  · simp only [if_neg h0, decide_eq_false (show ¬ ((0 ≤ r.f0 ∧ r.f0 ≤ 99999) ∧ (0 ≤ r.f1 ∧ r.f1 ≤ 99999)) from fun h => h0 h.1), Bool.false_and]
    exact ev_some _
def RF (l : List Rc) (i : Nat) : Prop := ∀ j, i ≤ j → j < l.length → rv (rr l j) = true ∧ (0 < j → (rr l ((j : Int) - 1)).f0 < (rr l j).f0)
theorem RF_end {l : List Rc} {i : Nat} (h : l.length ≤ i) : RF l i := fun j h1 h2 => by omega
theorem RF_step {l : List Rc} {i : Nat} (h : i < l.length) : RF l i ↔ (rv (rr l i) = true ∧ (0 < i → (rr l ((i : Int) - 1)).f0 < (rr l i).f0)) ∧ RF l (i + 1) := by
  constructor
  · intro hv
    exact ⟨hv i (Nat.le_refl _) h, fun j h1 h2 => hv j (by omega) h2⟩
  · rintro ⟨h1, h2⟩ j h3 h4
    by_cases e : j = i
    · subst e; exact h1
    · exact h2 j (by omega) h4
theorem implRecs_loop (l : List Rc) (hl : smallRs l) (a0 a1 : Bool) (a2 a3 a4 : Int) : ∀ (d i : Nat), l.length - i = d → i ≤ l.length → Evs (fun k => impl_BatchValid.l0 k l (l.length : Int) (i : Int) a0 a1 a2 a3 a4 l) (fun b => b = true ↔ RF l i) := by
  intro d
  induction d with
  | zero =>
    intro i hd hi
    refine Evs.succ ?_
    simp only [impl_BatchValid.l0, if_neg (show ¬ (i : Int) < (l.length : Int) by omega)]
    exact Evs.done (by simp; exact RF_end (by omega))
  | succ d ih =>
    intro i hd hi
    have hll := hl.1
    have hn := ih (i + 1) (by omega) (by omega)
    have e1 : wrap64 ((i : Int) + 1) = ((i + 1 : Nat) : Int) := by rw [wrap_id (by omega) (by omega)]; omega
    have e2 : wrap64 ((i : Int) - 1) = (i : Int) - 1 := wrap_id (by omega) (by omega)
    rw [RF_step (show i < l.length by omega)]
    refine Evs.succ ?_
    simp only [impl_BatchValid.l0, if_pos (show (i : Int) < (l.length : Int) by omega), if_pos (show (0 : Int) ≤ i by omega), e1, e2]
    refine Evs.bind (Evs.of (implRec (rr l (i : Int)) (smallRs_at hl i (by omega))) rfl : Evs _ (fun x => x = rv (rr l (i : Int)))) ?_
    rintro _ rfl
    by_cases h1 : rv (rr l (i : Int)) = true
    · simp only [if_pos h1]
      by_cases h0 : (i : Int) > 0
      · simp only [if_pos h0, if_pos (show 0 ≤ (i : Int) - 1 by omega), if_pos (show (i : Int) - 1 < (l.length : Int) by omega)]
        by_cases h2 : (rr l ((i : Int) - 1)).f0 ≥ (rr l (i : Int)).f0
        · simp only [if_pos h2]
          refine Evs.done ?_
          simp only [Bool.false_eq_true, false_iff]
          rintro ⟨⟨_, h3⟩, _⟩
          have := h3 (by omega)
          omega
        · simp only [if_neg h2]
          refine hn.mono fun b hb => ?_
          rw [hb]
          exact ⟨fun h => ⟨⟨h1, fun _ => by omega⟩, h⟩, fun h => h.2⟩
      · simp only [if_neg h0]
        refine hn.mono fun b hb => ?_
        rw [hb]
        exact ⟨fun h => ⟨⟨h1, fun h' => absurd h' (by omega)⟩, h⟩, fun h => h.2⟩
    · simp only [if_neg h1]
      exact Evs.done (by simp only [Bool.false_eq_true, false_iff]; exact fun h => h1 h.1.1)
theorem specRecs_loop (l : List Rc) (hl : smallRs l) : ∀ (d i : Nat), l.length - i = d → i ≤ l.length → Evs (fun k => spec_l5Records.l0 k l (i : Int)) (fun b => b = true ↔ RF l i ∧ 1 ≤ l.length ∧ l.length ≤ 6) := by
  intro d
  induction d with
  | zero =>
    intro i hd hi
    refine Evs.succ ?_
    simp only [spec_l5Records.l0, if_neg (show ¬ (i : Int) < (l.length : Int) by omega), spec_l6In_eq, bsome]
    exact Evs.done (by simp only [decide_eq_true_eq]; exact ⟨fun h => ⟨RF_end (by omega), by omega, by omega⟩, fun h => by have := h.2; omega⟩)
  | succ d ih =>
    intro i hd hi
    have hll := hl.1
    have hn := ih (i + 1) (by omega) (by omega)
    have e1 : wrap64 ((i : Int) + 1) = ((i + 1 : Nat) : Int) := by rw [wrap_id (by omega) (by omega)]; omega
    have e2 : wrap64 ((i : Int) - 1) = (i : Int) - 1 := wrap_id (by omega) (by omega)
    rw [RF_step (show i < l.length by omega)]
    refine Evs.succ ?_
    simp only [spec_l5Records.l0, if_pos (show (i : Int) < (l.length : Int) by omega), if_pos (show (0 : Int) ≤ i by omega), e1, e2]
    refine Evs.bind (Evs.of (specRec (rr l (i : Int)) (smallRs_at hl i (by omega))) rfl : Evs _ (fun x => x = rv (rr l (i : Int)))) ?_
    rintro _ rfl
    by_cases h1 : rv (rr l (i : Int)) = true
    · simp only [if_pos h1]
      by_cases h0 : (i : Int) > 0
      · simp only [if_pos h0, if_pos (show 0 ≤ (i : Int) - 1 by omega), if_pos (show (i : Int) - 1 < (l.length : Int) by omega)]
        by_cases h2 : (rr l ((i : Int) - 1)).f0 ≥ (rr l (i : Int)).f0
        · simp only [if_pos h2]
          refine Evs.done ?_
          simp only [Bool.false_eq_true, false_iff]
          rintro ⟨⟨⟨_, h3⟩, _⟩, _⟩
          have := h3 (by omega)
          omega
        · simp only [if_neg h2]
          refine hn.mono fun b hb => ?_
          rw [hb]
          exact ⟨fun h => ⟨⟨⟨h1, fun _ => by omega⟩, h.1⟩, h.2⟩, fun h => ⟨h.1.2, h.2⟩⟩
      · simp only [if_neg h0]
        refine hn.mono fun b hb => ?_
        rw [hb]
        exact ⟨fun h => ⟨⟨⟨h1, fun h' => absurd h' (by omega)⟩, h.1⟩, h.2⟩, fun h => ⟨h.1.2, h.2⟩⟩
    · simp only [if_neg h1]
      exact Evs.done (by simp only [Bool.false_eq_true, false_iff]; exact fun h => h1 h.1.1.1)
def VB (a1 : Bool) (a2 a3 a4 : Int) (l : List Rc) : Prop :=
  (if a2 = 255 then a3 = 0 ∧ a4 = 0 ∧ a1 = false else (0 ≤ a2 ∧ a2 ≤ 254) ∧ (0 ≤ a3 ∧ a3 ≤ 99) ∧ (0 ≤ a4 ∧ a4 ≤ 9999)) ∧ (1 ≤ l.length ∧ l.length ≤ 6) ∧ (a1 = true → l.length = 1) ∧ RF l 0
theorem implB_j0 (a0 a1 : Bool) (a2 a3 a4 : Int) (l : List Rc) (hl : smallRs l) : Evs (fun k => impl_BatchValid.j0 k a0 a1 a2 a3 a4 l) (fun b => b = true ↔ (1 ≤ l.length ∧ l.length ≤ 6) ∧ (a1 = true → l.length = 1) ∧ RF l 0) := by
  have hr := implRecs_loop l hl a0 a1 a2 a3 a4 l.length 0 (by omega) (by omega)
  refine Evs.succ ?_
  simp only [impl_BatchValid.j0, impl_within_eq, bsome, decide_eq_true_eq]
  by_cases h : 1 ≤ (l.length : Int) ∧ (l.length : Int) ≤ 6
  · simp only [if_pos h]
    cases a1 with
    | true =>
      simp only [if_true]
      refine Evs.succ ?_
      by_cases h1 : l.length = 1
      · simp only [impl_BatchValid.j1, show ((l.length : Int) != 1) = false by rw [h1]; rfl, Bool.false_eq_true, if_false]
        refine hr.mono fun b hb => ?_
        rw [hb]
        exact ⟨fun h2 => ⟨by omega, fun _ => h1, h2⟩, fun h2 => h2.2.2⟩
      · simp only [impl_BatchValid.j1, show ((l.length : Int) != 1) = true by simp; omega, if_true]
        exact Evs.done (by simp only [Bool.false_eq_true, false_iff]; exact fun h2 => h1 (h2.2.1 trivial))
    | false =>
      simp only [Bool.false_eq_true, if_false]
      refine Evs.succ ?_
      simp only [impl_BatchValid.j1, Bool.false_eq_true, if_false]
      refine hr.mono fun b hb => ?_
      rw [hb]
      exact ⟨fun h2 => ⟨by omega, (fun h3 => h3.elim), h2⟩, fun h2 => h2.2.2⟩
  · simp only [if_neg h]
    refine Evs.succ ?_
    simp only [impl_BatchValid.j1, if_true]
    exact Evs.done (by simp only [Bool.false_eq_true, false_iff]; exact fun h2 => h ⟨by have := h2.1.1; omega, by have := h2.1.2; omega⟩)
theorem implB_evs (a0 a1 : Bool) (a2 a3 a4 : Int) (l : List Rc) (hl : smallRs l) : Evs (fun k => impl_BatchValid.f k a0 a1 a2 a3 a4 l) (fun b => b = true ↔ VB a1 a2 a3 a4 l) := by
  have hj := implB_j0 a0 a1 a2 a3 a4 l hl
  unfold impl_BatchValid.f VB
  by_cases h : a2 = 255
  · simp only [if_pos h]
    by_cases h3 : a3 = 0
    · simp only [if_pos h3]
      by_cases h4 : a4 = 0
      · simp only [if_pos h4]
        cases a1 with
        | true =>
          simp only [if_true]
          exact Evs.done (by simp)
        | false =>
          simp only [Bool.false_eq_true, if_false]
          refine hj.mono fun b hb => ?_
          rw [hb]
          exact ⟨fun h2 => ⟨⟨h3, h4, trivial⟩, h2.1, (fun h5 => h5.elim), h2.2.2⟩, fun h2 => ⟨h2.2.1, (fun h5 => by cases h5), h2.2.2.2⟩⟩
      · simp only [if_neg h4]
        exact Evs.done (by simp only [Bool.false_eq_true, false_iff]; exact fun h2 => h4 h2.1.2.1)
    · simp only [if_neg h3]
      exact Evs.done (by simp only [Bool.false_eq_true, false_iff]; exact fun h2 => h3 h2.1.1)
  · simp only [if_neg h, idValid_eqB, impl_within_eq, bsome, decide_eq_true_eq]
    by_cases h2 : 0 ≤ a2 ∧ a2 ≤ 254
    · simp only [if_pos h2]
      by_cases h3 : 0 ≤ a3 ∧ a3 ≤ 99
      · simp only [if_pos h3]
        by_cases h4 : 0 ≤ a4 ∧ a4 ≤ 9999
        · simp only [if_pos h4]
          refine hj.mono fun b hb => ?_
          rw [hb]
          exact ⟨fun h5 => ⟨⟨h2, h3, h4⟩, h5⟩, fun h5 => h5.2⟩
        · simp only [if_neg h4]
          exact Evs.done (by simp only [Bool.false_eq_true, false_iff]; exact fun h5 => h4 h5.1.2.2)
      · simp only [if_neg h3]
        exact Evs.done (by simp only [Bool.false_eq_true, false_iff]; exact fun h5 => h3 h5.1.2.1)
    · simp only [if_neg h2]
      exact Evs.done (by simp only [Bool.false_eq_true, false_iff]; exact fun h5 => h2 h5.1.1)
theorem specB_j0_true (a0 a1 : Bool) (a2 a3 a4 : Int) (l : List Rc) : Evs (fun k => spec_BatchValid.j0 k true a0 a1 a2 a3 a4 l) (fun b => b = false) := by
  refine Evs.succ ?_
  simp only [spec_BatchValid.j0, if_true]
  exact Evs.done rfl
theorem specB_evs (a0 a1 : Bool) (a2 a3 a4 : Int) (l : List Rc) (hl : smallRs l) : Evs (fun k => spec_BatchValid.f k a0 a1 a2 a3 a4 l) (fun b => b = true ↔ VB a1 a2 a3 a4 l) := by
  have hr := specRecs_loop l hl l.length 0 (by omega) (by omega)
  have no : ∀ {P : Prop}, ¬ P → ∀ b : Bool, b = false → (b = true ↔ P) := fun hP b hb => by rw [hb]; simp only [Bool.false_eq_true, false_iff]; exact hP
  unfold spec_BatchValid.f
  unfold spec_l5Records.f
  refine Evs.bind hr ?_
  intro t ht
  by_cases h : t = true
  · obtain ⟨hRF, hl1⟩ := ht.1 h
    simp only [if_pos h, spec_l6In_eq, bsome, decide_eq_true_eq]
    by_cases h2 : 0 ≤ a2 ∧ a2 ≤ 255
    · simp only [if_pos h2]
      by_cases h3 : 0 ≤ a3 ∧ a3 ≤ 99
      · simp only [if_pos h3]
        by_cases h4 : 0 ≤ a4 ∧ a4 ≤ 9999
        · simp only [decide_eq_true h4, Bool.not_true]
          refine Evs.succ ?_
          simp only [spec_BatchValid.j0, Bool.false_eq_true, if_false]
          unfold VB
          by_cases h5 : a2 = 255
          · simp only [if_pos h5]
            by_cases h6 : a3 = 0
            · simp only [if_pos h6]
              by_cases h7 : a4 = 0
              · simp only [if_pos h7]
                refine Evs.done ?_
                cases a1
                · simp; exact ⟨⟨h6, h7⟩, hl1, hRF⟩
                · simp
              · simp only [if_neg h7]
                exact Evs.done (no (fun h8 => h7 h8.1.2.1) _ rfl)
            · simp only [if_neg h6]
              exact Evs.done (no (fun h8 => h6 h8.1.1) _ rfl)
          · simp only [if_neg h5]
            cases a1 with
            | true =>
              simp only [if_true]
              refine Evs.done ?_
              simp only [beq_iff_eq]
              exact ⟨fun h8 => ⟨⟨by omega, h3, h4⟩, hl1, fun _ => by omega, hRF⟩, fun h8 => by have := h8.2.2.1 trivial; omega⟩
            | false =>
              simp only [Bool.false_eq_true, if_false]
              refine Evs.done ?_
              simp only [true_iff]
              exact ⟨⟨by omega, h3, h4⟩, hl1, (fun h8 => h8.elim), hRF⟩
        · simp only [decide_eq_false h4, Bool.not_false]
          refine (specB_j0_true a0 a1 a2 a3 a4 l).mono (no ?_)
          unfold VB
          split
          · rintro ⟨⟨_, h8, _⟩, _⟩
            exact h4 (by omega)
          · exact fun h8 => h4 h8.1.2.2
      · simp only [if_neg h3]
        refine (specB_j0_true a0 a1 a2 a3 a4 l).mono (no ?_)
        unfold VB
        split
        · rintro ⟨⟨h8, _, _⟩, _⟩
          exact h3 (by omega)
        · exact fun h8 => h3 h8.1.2.1
    · simp only [if_neg h2]
      refine (specB_j0_true a0 a1 a2 a3 a4 l).mono (no ?_)
      unfold VB
      split
      · rename_i h8
        exact fun _ => h2 (by omega)
      · exact fun h8 => h2 (by have := h8.1.1; omega)
  · simp only [if_neg h]
    refine (specB_j0_true a0 a1 a2 a3 a4 l).mono (no ?_)
    exact fun h8 => h (ht.2 ⟨h8.2.2.2, h8.2.1⟩)
open Classical in
noncomputable def vb (a1 : Bool) (a2 a3 a4 : Int) (l : List Rc) : Bool := decide (VB a1 a2 a3 a4 l)
theorem vb_iff (a1 : Bool) (a2 a3 a4 : Int) (l : List Rc) : vb a1 a2 a3 a4 l = true ↔ VB a1 a2 a3 a4 l := by unfold vb; simp
theorem implB (a0 a1 : Bool) (a2 a3 a4 : Int) (l : List Rc) (hl : smallRs l) : Ev (fun k => impl_BatchValid.f k a0 a1 a2 a3 a4 l) (vb a1 a2 a3 a4 l) := by
  obtain ⟨b, hb, h⟩ := implB_evs a0 a1 a2 a3 a4 l hl
  rw [show vb a1 a2 a3 a4 l = b by rw [Bool.eq_iff_iff, vb_iff, h]]
  exact hb
theorem specB (a0 a1 : Bool) (a2 a3 a4 : Int) (l : List Rc) (hl : smallRs l) : Ev (fun k => spec_BatchValid.f k a0 a1 a2 a3 a4 l) (vb a1 a2 a3 a4 l) := by
  obtain ⟨b, hb, h⟩ := specB_evs a0 a1 a2 a3 a4 l hl
  rw [show vb a1 a2 a3 a4 l = b by rw [Bool.eq_iff_iff, vb_iff, h]]
  exact hb
end Go.Proofs.Yticpnjhkdfdkkaa.Q
namespace Go.Proofs.Yticpnjhkdfdkkaa.Q
open Go.RowKit Go.Proofs.Yticpnjhkdfdkkaa.T Go.Proofs.YticpnjhkdfdkkaaW.PrintWords Go.Proofs.YticpnjhkdfdkkaaW.PrintLast
set_option linter.unusedVariables false
set_option linter.unusedSimpArgs false
theorem bytes_of {l : List Int} (h : ∀ x ∈ l, (Lit.int .u8 x).wf = true) : Bytes l := by
  intro x hx
  have := h x hx
  simp [Lit.wf, IntKind.min, IntKind.max, IntKind.signed, IntKind.bits] at this
  omega
theorem open_ev (l : List Int) (h : Bytes l) : ∃ b, spec_l6Open.f l = some (b, 0) ∧ Bytes b ∧ b.length ≤ 2000 := by
  unfold spec_l6Open.f
  by_cases hc : (l.length : Int) > 2000
  · rw [if_pos hc, if_pos (by omega)]
    exact ⟨_, rfl, fun x hx => h x (List.mem_of_mem_take hx), by rw [List.length_take]; omega⟩
  · rw [if_neg hc]
    exact ⟨_, rfl, h, by omega⟩
end Go.Proofs.Yticpnjhkdfdkkaa.Q
namespace Go.Proofs.Yticpnjhkdfdkkaa.Q
open Go.RowKit Go.Proofs.Yticpnjhkdfdkkaa.T Go.Proofs.YticpnjhkdfdkkaaW.PrintWords Go.Proofs.YticpnjhkdfdkkaaW.PrintLast
set_option linter.unusedVariables false
set_option linter.unusedSimpArgs false
theorem lim2 {n c : Nat} (h : n ≤ 2000) (hc : 2000 < c) : n < c := by omega
theorem part_loop (bs : List Int) (hb : Bytes bs) (hl : bs.length ≤ 2000) : ∀ (d : Nat) (l : List Int) (n i p : Int), n - i ≤ d → 0 ≤ i → (l.length : Int) ≤ i → (l.length : Int) ≤ 12 → n ≤ 12 → 0 ≤ p → p + 2 * d ≤ 900000000 →
    Evs (fun k => spec_l91Part.l0 k l n i bs p) (fun r => r.2.1.length ≤ 12 ∧ p ≤ r.2.2 ∧ r.2.2 ≤ p + 2 * d) := by
  intro d
  induction d with
  | zero =>
    intro l n i p hd hi hll h12 hn h0 h1
    refine Evs.succ ?_
    simp only [spec_l91Part.l0, if_neg (show ¬ i < n by omega)]
    exact Evs.done ⟨by dsimp only; omega, by dsimp only; omega, by dsimp only; omega⟩
  | succ d ih =>
    intro l n i p hd hi hll h12 hn h0 h1
    refine Evs.succ ?_
    by_cases hlt : i < n
    · have e1 : wrap64 (i + 1) = i + 1 := wrap_id (by omega) (by omega)
      simp only [spec_l91Part.l0, if_pos hlt, bsome, e1]
      refine Evs.bind (pick_evs bs p 256 hb hl h0 (by omega) (by omega)) ?_
      rintro ⟨u, _⟩ ⟨u0, u1, rfl⟩
      refine Evs.bind (pick_evs bs (p + 1) 4 hb hl (by omega) (by omega) (by omega)) ?_
      rintro ⟨v, _⟩ ⟨v0, v1, rfl⟩
      simp only [if_pos v0, if_pos (show v < (([1, 2, 3, u] : List Int).length : Int) from v1), if_pos (show l.length < 17592186044416 from lim2 (by omega) (by omega))]
      have h := ih (l ++ [rd [1, 2, 3, u] v]) n (i + 1) (p + 1 + 1) (by omega) (by omega) (by simp; omega) (by simp; omega) hn (by omega) (by omega)
      exact h.mono (fun r hr => ⟨hr.1, by have := hr.2.1; omega, by have := hr.2.2; omega⟩)
    · simp only [spec_l91Part.l0, if_neg hlt]
      exact Evs.done ⟨by dsimp only; omega, by dsimp only; omega, by dsimp only; omega⟩
theorem part_evs (bs : List Int) (hb : Bytes bs) (hl : bs.length ≤ 2000) (p : Int) (h0 : 0 ≤ p) (h1 : p ≤ 800000000) : Evs (fun k => spec_l91Part.f k bs p) (fun r => r.2.1.length ≤ 12 ∧ p ≤ r.2.2 ∧ r.2.2 ≤ p + 30) := by
  unfold spec_l91Part.f
  refine Evs.bind (pick_evs bs p 4 hb hl h0 (by omega) (by omega)) ?_
  rintro ⟨u, _⟩ ⟨u0, u1, rfl⟩
  by_cases hu : u = 0
  · simp only [if_pos hu]
    exact Evs.done ⟨by simp, by dsimp only; omega, by dsimp only; omega⟩
  · simp only [if_neg hu, bsome]
    refine Evs.bind (pick_evs bs (p + 1) 5 hb hl (by omega) (by omega) (by omega)) ?_
    rintro ⟨v, _⟩ ⟨v0, v1, rfl⟩
    refine Evs.bind (pick_evs bs (p + 1 + 1) 12 hb hl (by omega) (by omega) (by omega)) ?_
    rintro ⟨x, _⟩ ⟨x0, x1, rfl⟩
    by_cases hx : x = 0
    · simp only [if_pos hx]
      refine Evs.succ ?_
      simp only [spec_l91Part.j0]
      have h := part_loop bs hb hl 12 [] 12 0 (p + 1 + 1 + 1) (by omega) (by omega) (by simp) (by simp) (by omega) (by omega) (by omega)
      exact h.mono (fun r hr => ⟨hr.1, by have := hr.2.1; omega, by have := hr.2.2; omega⟩)
    · simp only [if_neg hx]
      refine Evs.succ ?_
      simp only [spec_l91Part.j0]
      have h := part_loop bs hb hl 12 [] v 0 (p + 1 + 1 + 1) (by omega) (by omega) (by simp) (by simp) (by omega) (by omega) (by omega)
      exact h.mono (fun r hr => ⟨hr.1, by have := hr.2.1; omega, by have := hr.2.2; omega⟩)
def drawnR (n : Nat) (l : List Rc) : Prop := l.length ≤ n ∧ ∀ r ∈ l, r.f3.length ≤ 12 ∧ r.f5.length ≤ 12
theorem drawnR_small {n : Nat} (hn : n ≤ 100000) {l : List Rc} (h : drawnR n l) : smallRs l := ⟨by have := h.1; omega, fun r hr => ⟨by have := (h.2 r hr).1; omega, by have := (h.2 r hr).2; omega⟩⟩
theorem drawnR_add {n : Nat} {l : List Rc} (h : drawnR n l) {r : Rc} (h3 : r.f3.length ≤ 12) (h5 : r.f5.length ≤ 12) : drawnR (n + 1) (l ++ [r]) := by
  refine ⟨by have := h.1; simp; omega, fun x hx => ?_⟩
  rcases List.mem_append.1 hx with hx | hx
  · exact h.2 x hx
  · rw [List.mem_singleton.1 hx]
    exact ⟨h3, h5⟩
theorem drawnR_mono {n m : Nat} {l : List Rc} (h : drawnR n l) (hm : n ≤ m) : drawnR m l := ⟨by have := h.1; omega, h.2⟩
theorem recs_loop (bs : List Int) (hb : Bytes bs) (hl : bs.length ≤ 2000) (n : Int) (hn : n ≤ 100) : ∀ (d : Nat) (o : Int) (l : List Rc) (t i p : Int), n - i ≤ d → 0 ≤ i → drawnR i.toNat l → (0 < i → 0 < l.length) → 0 ≤ p → p + 70 * d ≤ 700000000 →
    Evs (fun k => spec_l91Records.l0 k o l n t i bs p) (fun r => drawnR (max i n).toNat r.1 ∧ (0 < max i n → 0 < r.1.length) ∧ p ≤ r.2 ∧ r.2 ≤ p + 70 * d) := by
  intro d
  induction d with
  | zero =>
    intro o l t i p hd hi hll hpos h0 h1
    refine Evs.succ ?_
    simp only [spec_l91Records.l0, if_neg (show ¬ i < n by omega)]
    exact Evs.done ⟨by dsimp only; exact drawnR_mono hll (by omega), by dsimp only; intro h; exact hpos (by omega), by dsimp only; omega, by dsimp only; omega⟩
  | succ d ih =>
    intro o l t i p hd hi hll hpos h0 h1
    refine Evs.succ ?_
    by_cases hlt : i < n
    · have e1 : wrap64 (i + 1) = i + 1 := wrap_id (by omega) (by omega)
      have hlen := hll.1
      simp only [spec_l91Records.l0, if_pos hlt]
      refine Evs.bind (part_evs bs hb hl p h0 (by omega)) ?_
      rintro ⟨kh, kl, p1⟩ ⟨hk, q0, q1⟩
      dsimp only at hk q0 q1 ⊢
      refine Evs.bind (part_evs bs hb hl p1 (by omega) (by omega)) ?_
      rintro ⟨vh, vl, p2⟩ ⟨hv, q2, q3⟩
      dsimp only at hv q2 q3 ⊢
      have main : ∀ (c : Bool) (q : Int), 0 ≤ q → p ≤ q → q ≤ p2 + 1 → Evs (fun k => spec_l91Records.j1 k o l n t i vh vl c bs q o t kh kl false) (fun r => drawnR (max i n).toNat r.1 ∧ (0 < max i n → 0 < r.1.length) ∧ p ≤ r.2 ∧ r.2 ≤ p + 70 * (d + 1 : Nat)) := by
        intro c q hq0 hq1 hq2
        refine Evs.succ ?_
        have hlim : l.length < 1759218604441 := lim2 (by omega) (by omega)
        cases c with
        | true =>
          simp only [spec_l91Records.j1, if_true, if_pos hlim, e1]
          refine Evs.bind (pick_evs bs q 3 hb hl (by omega) (by omega) (by omega)) ?_
          rintro ⟨u, _⟩ ⟨u0, u1, rfl⟩
          refine Evs.bind (pick_evs bs (q + 1) 5 hb hl (by omega) (by omega) (by omega)) ?_
          rintro ⟨v, _⟩ ⟨v0, v1, rfl⟩
          refine Evs.bind (pick_evs bs (q + 1 + 1) 30 hb hl (by omega) (by omega) (by omega)) ?_
          rintro ⟨x, _⟩ ⟨x0, x1, rfl⟩
          have h := ih (wrap64 (wrap64 (o + 1) + wrap64 (Int.tdiv v 4))) (l ++ [⟨o, t, kh, [u], vh, vl⟩]) (mx (wrap64 (wrap64 (t + x) - 6)) 0) (i + 1) (q + 1 + 1 + 1) (by omega) (by omega) (drawnR_mono (drawnR_add hll (by simp) hv) (by omega)) (fun _ => by simp) (by omega) (by omega)
          rw [show max (i + 1) n = max i n by omega] at h
          exact h.mono (fun r hr => ⟨hr.1, hr.2.1, by have := hr.2.2.1; omega, by have := hr.2.2.2; omega⟩)
        | false =>
          simp only [spec_l91Records.j1, Bool.false_eq_true, if_false, if_pos hlim, e1]
          refine Evs.bind (pick_evs bs q 5 hb hl (by omega) (by omega) (by omega)) ?_
          rintro ⟨v, _⟩ ⟨v0, v1, rfl⟩
          refine Evs.bind (pick_evs bs (q + 1) 30 hb hl (by omega) (by omega) (by omega)) ?_
          rintro ⟨x, _⟩ ⟨x0, x1, rfl⟩
          have h := ih (wrap64 (wrap64 (o + 1) + wrap64 (Int.tdiv v 4))) (l ++ [⟨o, t, kh, kl, vh, vl⟩]) (mx (wrap64 (wrap64 (t + x) - 6)) 0) (i + 1) (q + 1 + 1) (by omega) (by omega) (drawnR_mono (drawnR_add hll hk hv) (by omega)) (fun _ => by simp) (by omega) (by omega)
          rw [show max (i + 1) n = max i n by omega] at h
          exact h.mono (fun r hr => ⟨hr.1, hr.2.1, by have := hr.2.2.1; omega, by have := hr.2.2.2; omega⟩)
      by_cases hkh : kh = true
      · simp only [if_pos hkh]
        refine Evs.bind (pick_evs bs p2 2 hb hl (by omega) (by omega) (by omega)) ?_
        rintro ⟨u, _⟩ ⟨u0, u1, rfl⟩
        exact main (u == 0) (p2 + 1) (by omega) (by omega) (by omega)
      · simp only [if_neg hkh]
        exact main false p2 (by omega) (by omega) (by omega)
    · simp only [spec_l91Records.l0, if_neg hlt]
      exact Evs.done ⟨by dsimp only; exact drawnR_mono hll (by omega), by dsimp only; intro h; exact hpos (by omega), by dsimp only; omega, by dsimp only; omega⟩
theorem recs_evs (bs : List Int) (hb : Bytes bs) (hl : bs.length ≤ 2000) (p o m : Int) (h0 : 0 ≤ p) (h1 : p ≤ 600000000) (hm : 1 ≤ m) (hm2 : m ≤ 10) : Evs (fun k => spec_l91Records.f k bs p o m) (fun r => drawnR m.toNat r.1 ∧ 0 < r.1.length ∧ p ≤ r.2 ∧ r.2 ≤ p + 800) := by
  unfold spec_l91Records.f
  refine Evs.bind (pick_evs bs p m hb hl h0 (by omega) hm) ?_
  rintro ⟨u, _⟩ ⟨u0, u1, rfl⟩
  refine Evs.bind (pick_evs bs (p + 1) 200 hb hl (by omega) (by omega) (by omega)) ?_
  rintro ⟨v, _⟩ ⟨v0, v1, rfl⟩
  simp only [show wrap64 (1 + u) = 1 + u from wrap_id (by omega) (by omega)]
  have h := recs_loop bs hb hl (1 + u) (by omega) 10 o [] v 0 (p + 1 + 1) (by omega) (by omega) ⟨by simp, fun r hr => by cases hr⟩ (fun h => by omega) (by omega) (by omega)
  exact h.mono (fun r hr => ⟨drawnR_mono hr.1 (by omega), hr.2.1 (by omega), by have := hr.2.2.1; omega, by have := hr.2.2.2; omega⟩)
end Go.Proofs.Yticpnjhkdfdkkaa.Q
namespace Go.Proofs.Yticpnjhkdfdkkaa.Q
open Go.RowKit Go.Proofs.Yticpnjhkdfdkkaa.T Go.Proofs.YticpnjhkdfdkkaaW.PrintWords Go.Proofs.YticpnjhkdfdkkaaW.PrintLast
set_option linter.unusedVariables false
set_option linter.unusedSimpArgs false
abbrev Bt := S27
abbrev rb (l : List Bt) (i : Int) : Bt := rd_T27 l i
theorem rb_nat (l : List Bt) (j : Nat) (h : j < l.length) : rb l (j : Int) = l[j] := by
  unfold rb rd_T27
  rw [Int.toNat_natCast, List.getD_eq_getElem?_getD, List.getElem?_eq_getElem h]
  rfl
def smallBs (l : List Bt) : Prop := l.length ≤ 2000000 ∧ ∀ b ∈ l, smallRs b.f5
theorem smallBs_at {l : List Bt} (h : smallBs l) (j : Nat) (hj : j < l.length) : smallRs (rb l (j : Int)).f5 := by
  rw [rb_nat l j hj]
  exact h.2 _ (List.getElem_mem hj)
def fOff (b : Bt) : Int := (rr b.f5 0).f0
def lOff (b : Bt) : Int := (rr b.f5 ((b.f5.length : Int) - 1)).f0
def vB (b : Bt) : Prop := VB b.f1 b.f2 b.f3 b.f4 b.f5
theorem vB_pos {b : Bt} (h : vB b) : 1 ≤ b.f5.length ∧ b.f5.length ≤ 6 := h.2.1
theorem first_eq {b : Bt} (h : vB b) : impl_Batch_first.f b.f0 b.f1 b.f2 b.f3 b.f4 b.f5 = some (fOff b) := by
  have := vB_pos h
  unfold impl_Batch_first.f
  rw [if_pos (show 0 < (b.f5.length : Int) by omega)]
  rfl
theorem last_eq {b : Bt} (h : vB b) : impl_Batch_last.f b.f0 b.f1 b.f2 b.f3 b.f4 b.f5 = some (lOff b) := by
  have := vB_pos h
  have e : wrap64 ((b.f5.length : Int) - 1) = (b.f5.length : Int) - 1 := wrap_id (by omega) (by omega)
  unfold impl_Batch_last.f
  rw [e, if_pos (show 0 ≤ (b.f5.length : Int) - 1 by omega), if_pos (show (b.f5.length : Int) - 1 < (b.f5.length : Int) by omega)]
  rfl
theorem lastS_eq {b : Bt} (h : vB b) : spec_l12Last.f b.f0 b.f1 b.f2 b.f3 b.f4 b.f5 = some (lOff b) := by
  have := vB_pos h
  have e : wrap64 ((b.f5.length : Int) - 1) = (b.f5.length : Int) - 1 := wrap_id (by omega) (by omega)
  unfold spec_l12Last.f
  rw [e, if_pos (show 0 ≤ (b.f5.length : Int) - 1 by omega), if_pos (show (b.f5.length : Int) - 1 < (b.f5.length : Int) by omega)]
  rfl
theorem RF_lt {l : List Rc} (h : RF l 0) : ∀ (d i : Nat), i + d + 1 < l.length → (rr l (i : Int)).f0 < (rr l ((i + d + 1 : Nat) : Int)).f0
  | 0, i, hi => by
    have := (h (i + 1) (by omega) hi).2 (by omega)
    rw [show ((i + 1 : Nat) : Int) - 1 = (i : Int) by omega] at this
    exact this
  | d + 1, i, hi => by
    have h1 := RF_lt h d i (by omega)
    have := (h (i + d + 2) (by omega) (by omega)).2 (by omega)
    rw [show ((i + d + 2 : Nat) : Int) - 1 = ((i + d + 1 : Nat) : Int) by omega] at this
    exact Int.lt_trans h1 this
theorem fOff_le {b : Bt} (h : vB b) : fOff b ≤ lOff b := by
  have hp := vB_pos h
  unfold fOff lOff
  by_cases h1 : b.f5.length = 1
  · rw [h1]
    exact Int.le_refl _
  · have := RF_lt h.2.2.2 (b.f5.length - 2) 0 (by omega)
    rw [show ((0 + (b.f5.length - 2) + 1 : Nat) : Int) = (b.f5.length : Int) - 1 by omega] at this
    exact Int.le_of_lt this
theorem fOff_range {b : Bt} (h : vB b) : 0 ≤ fOff b ∧ fOff b ≤ 99999 := by
  have hp := vB_pos h
  have := (h.2.2.2 0 (Nat.le_refl _) (by omega)).1
  unfold rv at this
  rw [Bool.and_eq_true, decide_eq_true_eq] at this
  exact this.1.1
theorem lOff_range {b : Bt} (h : vB b) : 0 ≤ lOff b ∧ lOff b ≤ 99999 := by
  have hp := vB_pos h
  have := (h.2.2.2 (b.f5.length - 1) (Nat.zero_le _) (by omega)).1
  unfold rv at this
  rw [Bool.and_eq_true, decide_eq_true_eq] at this
  rw [show ((b.f5.length - 1 : Nat) : Int) = (b.f5.length : Int) - 1 by omega] at this
  exact this.1.1
def LF (l : List Bt) (i : Nat) : Prop := ∀ j, i ≤ j → j < l.length → vB (rb l j) ∧ (0 < j → lOff (rb l ((j : Int) - 1)) < fOff (rb l j))
def VL (l : List Bt) : Prop := l.length ≤ 8 ∧ LF l 0
theorem LF_end {l : List Bt} {i : Nat} (h : l.length ≤ i) : LF l i := fun j h1 h2 => by omega
theorem LF_step {l : List Bt} {i : Nat} (h : i < l.length) : LF l i ↔ (vB (rb l i) ∧ (0 < i → lOff (rb l ((i : Int) - 1)) < fOff (rb l i))) ∧ LF l (i + 1) := by
  constructor
  · intro hl
    exact ⟨hl i (Nat.le_refl _) h, fun j h1 h2 => hl j (by omega) h2⟩
  · rintro ⟨h0, h1⟩ j hj1 hj2
    by_cases he : j = i
    · subst he; exact h0
    · exact h1 j (by omega) hj2
open Classical in
noncomputable def vl (l : List Bt) : Bool := decide (VL l)
theorem vl_iff (l : List Bt) : vl l = true ↔ VL l := by unfold vl; simp
theorem vl_of {b : Bool} {l : List Bt} (h : b = true ↔ VL l) : b = vl l := by
  rw [Bool.eq_iff_iff, h, vl_iff]
theorem vb_vB (b : Bt) : vb b.f1 b.f2 b.f3 b.f4 b.f5 = true ↔ vB b := vb_iff _ _ _ _ _
theorem implLog_loop (l : List Bt) (hl : smallBs l) : ∀ (d i : Nat), l.length - i = d → i ≤ l.length → (∀ j, j < i → vB (rb l (j : Int))) → Evs (fun k => impl_LogValid.l0 k l l (l.length : Int) (i : Int)) (fun b => b = true ↔ LF l i) := by
  have hs := hl.1
  intro d
  induction d with
  | zero =>
    intro i hd hi _
    refine Evs.succ ?_
    simp only [impl_LogValid.l0, if_neg (show ¬ (i : Int) < (l.length : Int) by omega)]
    exact Evs.done ⟨fun _ => LF_end (by omega), fun _ => rfl⟩
  | succ d ih =>
    intro i hd hi hv
    have hlt : i < l.length := by omega
    have e1 : wrap64 ((i : Int) + 1) = ((i + 1 : Nat) : Int) := by rw [wrap_id (by omega) (by omega)]; omega
    refine Evs.succ ?_
    simp only [impl_LogValid.l0, if_pos (show (i : Int) < (l.length : Int) by omega), if_pos (show (0 : Int) ≤ (i : Int) by omega), e1]
    refine Evs.bind (Evs.of (implB (rb l i).f0 (rb l i).f1 (rb l i).f2 (rb l i).f3 (rb l i).f4 (rb l i).f5 (smallBs_at hl i hlt)) rfl) ?_
    rintro _ rfl
    by_cases hb : vB (rb l i)
    · have hb2 := (vb_vB (rb l i)).2 hb
      simp only [if_pos hb2]
      have hv2 : ∀ j, j < i + 1 → vB (rb l (j : Int)) := fun j hj => by
        by_cases he : j = i
        · subst he; exact hb
        · exact hv j (by omega)
      by_cases h0 : i = 0
      · subst h0
        simp only [if_neg (show ¬ ((0 : Nat) : Int) > 0 by omega)]
        refine (ih 1 (by omega) (by omega) hv2).mono fun b hb3 => ?_
        rw [hb3, LF_step hlt]
        exact ⟨fun h => ⟨⟨hb, fun h => absurd h (by omega)⟩, h⟩, fun h => h.2⟩
      · have e2 : wrap64 ((i : Int) - 1) = (i : Int) - 1 := wrap_id (by omega) (by omega)
        have hp : vB (rb l ((i : Int) - 1)) := by have := hv (i - 1) (by omega); rwa [show ((i - 1 : Nat) : Int) = (i : Int) - 1 by omega] at this
        have f1 := last_eq hp
        have f2 := first_eq hb
        simp only [if_pos (show (i : Int) > 0 by omega), e2, if_pos (show 0 ≤ (i : Int) - 1 by omega), if_pos (show (i : Int) - 1 < (l.length : Int) by omega)]
        rw [show (rd_T27 l ((i : Int) - 1)) = rb l ((i : Int) - 1) from rfl, show (rd_T27 l (i : Int)) = rb l (i : Int) from rfl, f1, f2]
        simp only [bsome]
        by_cases hc : lOff (rb l ((i : Int) - 1)) ≥ fOff (rb l i)
        · simp only [if_pos hc]
          refine Evs.done ?_
          rw [LF_step hlt]
          simp only [Bool.false_eq_true, false_iff]
          intro h
          have := h.1.2 (by omega)
          omega
        · simp only [if_neg hc]
          refine (ih (i + 1) (by omega) (by omega) hv2).mono fun b hb3 => ?_
          rw [hb3, LF_step hlt]
          exact ⟨fun h => ⟨⟨hb, fun _ => by omega⟩, h⟩, fun h => h.2⟩
    · have hb2 : ¬ vb (rb l i).f1 (rb l i).f2 (rb l i).f3 (rb l i).f4 (rb l i).f5 = true := fun h => hb ((vb_vB (rb l i)).1 h)
      simp only [if_neg hb2]
      refine Evs.done ?_
      rw [LF_step hlt]
      simp only [Bool.false_eq_true, false_iff]
      exact fun h => hb h.1.1
theorem implLog (l : List Bt) (hl : smallBs l) : Ev (fun k => impl_LogValid.f k l) (vl l) := by
  have hs := hl.1
  unfold impl_LogValid.f
  by_cases h : (l.length : Int) > 8
  · simp only [if_pos h]
    have : vl l = false := by rw [← Bool.not_eq_true, vl_iff]; exact fun h2 => by have := h2.1; omega
    rw [this]
    exact ev_some _
  · simp only [if_neg h]
    obtain ⟨b, h1, h2⟩ := implLog_loop l hl l.length 0 (by omega) (by omega) (fun j hj => by omega)
    have : b = vl l := vl_of (h2.trans ⟨fun h3 => ⟨by omega, h3⟩, fun h3 => h3.2⟩)
    rw [← this]
    exact h1
theorem specLog_loop (l : List Bt) (hl : smallBs l) : ∀ (d i : Nat), l.length - i = d → i ≤ l.length → (∀ j, j < i → vB (rb l (j : Int))) → Evs (fun k => spec_LogValid.l0 k l (i : Int)) (fun b => b = true ↔ LF l i ∧ l.length ≤ 8) := by
  have hs := hl.1
  intro d
  induction d with
  | zero =>
    intro i hd hi _
    refine Evs.succ ?_
    simp only [spec_LogValid.l0, if_neg (show ¬ (i : Int) < (l.length : Int) by omega)]
    refine Evs.done ?_
    rw [decide_eq_true_eq]
    exact ⟨fun h => ⟨LF_end (by omega), by omega⟩, fun h => by omega⟩
  | succ d ih =>
    intro i hd hi hv
    have hlt : i < l.length := by omega
    have e1 : wrap64 ((i : Int) + 1) = ((i + 1 : Nat) : Int) := by rw [wrap_id (by omega) (by omega)]; omega
    refine Evs.succ ?_
    simp only [spec_LogValid.l0, if_pos (show (i : Int) < (l.length : Int) by omega), if_pos (show (0 : Int) ≤ (i : Int) by omega), e1]
    refine Evs.bind (Evs.of (specB (rb l i).f0 (rb l i).f1 (rb l i).f2 (rb l i).f3 (rb l i).f4 (rb l i).f5 (smallBs_at hl i hlt)) rfl) ?_
    rintro _ rfl
    by_cases hb : vB (rb l i)
    · have hb2 := (vb_vB (rb l i)).2 hb
      simp only [if_pos hb2]
      have hv2 : ∀ j, j < i + 1 → vB (rb l (j : Int)) := fun j hj => by
        by_cases he : j = i
        · subst he; exact hb
        · exact hv j (by omega)
      by_cases h0 : i = 0
      · subst h0
        simp only [if_neg (show ¬ ((0 : Nat) : Int) > 0 by omega)]
        refine (ih 1 (by omega) (by omega) hv2).mono fun b hb3 => ?_
        rw [hb3, LF_step hlt]
        exact ⟨fun h => ⟨⟨⟨hb, fun h => absurd h (by omega)⟩, h.1⟩, h.2⟩, fun h => ⟨h.1.2, h.2⟩⟩
      · have e2 : wrap64 ((i : Int) - 1) = (i : Int) - 1 := wrap_id (by omega) (by omega)
        have hp : vB (rb l ((i : Int) - 1)) := by have := hv (i - 1) (by omega); rwa [show ((i - 1 : Nat) : Int) = (i : Int) - 1 by omega] at this
        have f1 := lastS_eq hp
        have hpos := (vB_pos hb).1
        simp only [if_pos (show (i : Int) > 0 by omega), e2, if_pos (show 0 ≤ (i : Int) - 1 by omega), if_pos (show (i : Int) - 1 < (l.length : Int) by omega)]
        rw [show (rd_T27 l ((i : Int) - 1)) = rb l ((i : Int) - 1) from rfl, show (rd_T27 l (i : Int)) = rb l (i : Int) from rfl, f1]
        simp only [bsome, if_pos (show 0 < ((rb l (i : Int)).f5.length : Int) by omega)]
        by_cases hc : lOff (rb l ((i : Int) - 1)) ≥ fOff (rb l i)
        · simp only [if_pos (show lOff (rb l ((i : Int) - 1)) ≥ (rd_T34 (rb l (i : Int)).f5 0).f0 from hc)]
          refine Evs.done ?_
          rw [LF_step hlt]
          simp only [Bool.false_eq_true, false_iff]
          intro h
          have := h.1.1.2 (by omega)
          omega
        · simp only [if_neg (show ¬ lOff (rb l ((i : Int) - 1)) ≥ (rd_T34 (rb l (i : Int)).f5 0).f0 from hc)]
          refine (ih (i + 1) (by omega) (by omega) hv2).mono fun b hb3 => ?_
          rw [hb3, LF_step hlt]
          exact ⟨fun h => ⟨⟨⟨hb, fun _ => by omega⟩, h.1⟩, h.2⟩, fun h => ⟨h.1.2, h.2⟩⟩
    · have hb2 : ¬ vb (rb l i).f1 (rb l i).f2 (rb l i).f3 (rb l i).f4 (rb l i).f5 = true := fun h => hb ((vb_vB (rb l i)).1 h)
      simp only [if_neg hb2]
      refine Evs.done ?_
      rw [LF_step hlt]
      simp only [Bool.false_eq_true, false_iff]
      exact fun h => hb h.1.1.1
theorem specLog (l : List Bt) (hl : smallBs l) : Ev (fun k => spec_LogValid.f k l) (vl l) := by
  unfold spec_LogValid.f
  obtain ⟨b, h1, h2⟩ := specLog_loop l hl l.length 0 (by omega) (by omega) (fun j hj => by omega)
  have : b = vl l := vl_of (h2.trans ⟨fun h3 => ⟨h3.2, h3.1⟩, fun h3 => ⟨h3.2, h3.1⟩⟩)
  rw [← this]
  exact h1
theorem VL_at {l : List Bt} (h : VL l) (j : Nat) (hj : j < l.length) : vB (rb l (j : Int)) := (h.2 j (Nat.zero_le _) hj).1
theorem VL_lt {l : List Bt} (h : VL l) : ∀ (d i : Nat), i + d + 1 < l.length → fOff (rb l (i : Int)) < fOff (rb l ((i + d + 1 : Nat) : Int))
  | 0, i, hi => by
    have h1 := (h.2 (i + 1) (Nat.zero_le _) hi).2 (by omega)
    rw [show ((i + 1 : Nat) : Int) - 1 = (i : Int) by omega] at h1
    have := fOff_le (VL_at h i (by omega))
    exact Int.lt_of_le_of_lt this h1
  | d + 1, i, hi => by
    have h0 := VL_lt h d i (by omega)
    have h1 := (h.2 (i + d + 2) (Nat.zero_le _) (by omega)).2 (by omega)
    rw [show ((i + d + 2 : Nat) : Int) - 1 = ((i + d + 1 : Nat) : Int) by omega] at h1
    have := fOff_le (VL_at h (i + d + 1) (by omega))
    exact Int.lt_trans h0 (Int.lt_of_le_of_lt this h1)
theorem VL_lt' {l : List Bt} (h : VL l) {i j : Nat} (hij : i < j) (hj : j < l.length) : fOff (rb l (i : Int)) < fOff (rb l (j : Int)) := by
  have := VL_lt h (j - i - 1) i (by omega)
  rwa [show i + (j - i - 1) + 1 = j by omega] at this
end Go.Proofs.Yticpnjhkdfdkkaa.Q
namespace Go.Proofs.Yticpnjhkdfdkkaa.Q
open Go.RowKit Go.Proofs.Yticpnjhkdfdkkaa.T Go.Proofs.YticpnjhkdfdkkaaW.PrintWords Go.Proofs.YticpnjhkdfdkkaaW.PrintLast
set_option linter.unusedVariables false
set_option linter.unusedSimpArgs false
theorem markRow_small (o t : Int) (g : Bool) : smallRs (markRow o t g) := by
  refine ⟨by simp [markRow], fun r hr => ?_⟩
  rw [List.mem_singleton.1 hr]
  exact ⟨by simp, by simp⟩
noncomputable def markB (p e o t : Int) (g : Bool) : Bool × Bool × Int × Int × Int × List Rc × Bool := if vb true p e 0 (markRow o t g) = true then (false, true, p, e, 0, markRow o t g, true) else (false, false, 0, 0, 0, [], false)
theorem specMark (p e o t : Int) (g : Bool) : Ev (fun k => spec_MarkBatch.f k p e o t g) (markB p e o t g) := by
  have h := specB false true p e 0 (markRow o t g) (markRow_small o t g)
  unfold spec_MarkBatch.f markB
  refine Ev.bind h ?_
  by_cases hv : vb true p e 0 (markRow o t g) = true
  · simp only [if_pos hv]; exact ev_some _
  · simp only [if_neg hv]; exact ev_some _
end Go.Proofs.Yticpnjhkdfdkkaa.Q
namespace Go.Proofs.Yticpnjhkdfdkkaa.Q
open Go.RowKit Go.Proofs.Yticpnjhkdfdkkaa.T Go.Proofs.YticpnjhkdfdkkaaW.PrintWords Go.Proofs.YticpnjhkdfdkkaaW.PrintLast
set_option linter.unusedVariables false
set_option linter.unusedSimpArgs false
def drawnBs (n : Nat) (l : List Bt) : Prop := l.length ≤ n ∧ ∀ b ∈ l, drawnR 5 b.f5
theorem drawnBs_add {n : Nat} {l : List Bt} (h : drawnBs n l) {b : Bt} (hb : drawnR 5 b.f5) : drawnBs (n + 1) (l ++ [b]) := by
  refine ⟨by have := h.1; simp; omega, fun x hx => ?_⟩
  rcases List.mem_append.1 hx with hx | hx
  · exact h.2 x hx
  · rw [List.mem_singleton.1 hx]; exact hb
theorem drawnBs_mono {n m : Nat} {l : List Bt} (h : drawnBs n l) (hm : n ≤ m) : drawnBs m l := ⟨by have := h.1; omega, h.2⟩
theorem drawnBs_small {l : List Bt} (h : drawnBs 10 l) : smallBs l := ⟨by have := h.1; omega, fun b hb => drawnR_small (by omega) (h.2 b hb)⟩
theorem drawnBs_set {n : Nat} {l : List Bt} (h : drawnBs n l) (i : Nat) {b : Bt} (hb : drawnR 5 b.f5) : drawnBs n (l.set i b) := by
  refine ⟨by rw [List.length_set]; exact h.1, fun x hx => ?_⟩
  rcases List.mem_or_eq_of_mem_set hx with hx | hx
  · exact h.2 x hx
  · rw [hx]; exact hb
theorem markRow_drawn (o t : Int) (g : Bool) : drawnR 5 (markRow o t g) := by
  refine ⟨by simp [markRow], fun r hr => ?_⟩
  rw [List.mem_singleton.1 hr]
  exact ⟨by simp, by simp⟩
theorem decided_loop (bs : List Int) (hb : Bytes bs) (hl : bs.length ≤ 2000) (n : Int) (hn : n ≤ 10) (hn2 : 1 ≤ n) : ∀ (d : Nat) (l : List Bt) (o i p : Int), n - i ≤ d → 0 ≤ i → i ≤ n → drawnBs i.toNat l → (0 < i → 0 < l.length) → 0 ≤ p → p + 1000 * d ≤ 400000000 →
    Evs (fun k => spec_l92Decided.l0 k l n o i bs p) (fun r => drawnBs 10 r.1) := by
  intro d
  induction d with
  | zero =>
    intro l o i p hd hi hin hdr hpos h0 h1
    refine Evs.succ ?_
    simp only [spec_l92Decided.l0, if_neg (show ¬ i < n by omega)]
    refine Evs.bind (pick_evs bs p 24 hb hl h0 (by omega) (by omega)) ?_
    rintro ⟨u, _⟩ ⟨u0, u1, rfl⟩
    by_cases hu : u = 0
    · have hlp := hpos (by omega)
      simp only [if_pos hu, if_pos (show 0 < (l.length : Int) by omega)]
      refine Evs.done (drawnBs_set (drawnBs_mono hdr (by omega)) _ ?_)
      show drawnR 5 (rb l ((0 : Nat) : Int)).f5
      rw [rb_nat l 0 hlp]
      exact hdr.2 _ (List.getElem_mem hlp)
    · simp only [if_neg hu]
      exact Evs.done (drawnBs_mono hdr (by omega))
  | succ d ih =>
    intro l o i p hd hi hin hdr hpos h0 h1
    by_cases hlt : i < n
    · have e1 : wrap64 (i + 1) = i + 1 := wrap_id (by omega) (by omega)
      have hlen := hdr.1
      refine Evs.succ ?_
      simp only [spec_l92Decided.l0, if_pos hlt]
      refine Evs.bind (pick_evs bs p 2 hb hl h0 (by omega) (by omega)) ?_
      rintro ⟨u, _⟩ ⟨u0, u1, rfl⟩
      refine Evs.bind (recs_evs bs hb hl (p + 1) o 2 (by omega) (by omega) (by omega) (by omega)) ?_
      rintro ⟨rs, q⟩ ⟨hd4, hrp, q0, q1⟩
      dsimp only at hd4 hrp q0 q1 ⊢
      have hlen2 := hd4.1
      refine Evs.bind (pick_evs bs q 6 hb hl (by omega) (by omega) (by omega)) ?_
      rintro ⟨v, _⟩ ⟨v0, v1, rfl⟩
      have next : ∀ (b : Bt) (o' p' : Int), drawnR 5 b.f5 → 0 ≤ p' → p' ≤ p + 1000 → Evs (fun k => spec_l92Decided.l0 k (l ++ [b]) n o' (i + 1) bs p') (fun r => drawnBs 10 r.1) := fun b o' p' hb' h0' h1' =>
        ih (l ++ [b]) o' (i + 1) p' (by omega) (by omega) (by omega) (drawnBs_mono (drawnBs_add hdr hb') (by omega)) (fun _ => by simp) h0' (by omega)
      have hlim : l.length < 2513169434916 := lim2 (by omega) (by omega)
      have w1 : ∀ x : List Rc, 0 < x.length → x.length ≤ 5 → wrap64 ((x.length : Int) - 1) = (x.length : Int) - 1 := fun x hx hx2 => wrap_id (by omega) (by omega)
      have main : ∀ c : Bool, Evs (fun k => spec_l92Decided.j1 k l n o i v c bs (q + 1) false false u 0 0 rs) (fun r => drawnBs 10 r.1) := by
        intro c
        refine Evs.succ ?_
        cases c with
        | true =>
          simp only [spec_l92Decided.j1, if_true]
          refine Evs.bind (pick_evs bs (q + 1) 2 hb hl (by omega) (by omega) (by omega)) ?_
          rintro ⟨a, _⟩ ⟨a0, a1, rfl⟩
          refine Evs.bind (pick_evs bs (q + 1 + 1) 100 hb hl (by omega) (by omega) (by omega)) ?_
          rintro ⟨c1, _⟩ ⟨c0, c2, rfl⟩
          refine Evs.bind (pick_evs bs (q + 1 + 1 + 1) 2 hb hl (by omega) (by omega) (by omega)) ?_
          rintro ⟨e, _⟩ ⟨e0, e2, rfl⟩
          refine Evs.bind (Evs.of (specMark a 0 o c1 (e == 0)) rfl) ?_
          rintro _ rfl
          unfold markB
          by_cases hv : vb true a 0 0 (markRow o c1 (e == 0)) = true
          · have hml : (markRow o c1 (e == 0)).length = 1 := by simp [markRow]
            simp only [if_pos hv, if_true, if_pos hlim, w1 _ (show 0 < (markRow o c1 (e == 0)).length by omega) (by omega), if_pos (show 0 ≤ ((markRow o c1 (e == 0)).length : Int) - 1 by omega), if_pos (show ((markRow o c1 (e == 0)).length : Int) - 1 < ((markRow o c1 (e == 0)).length : Int) by omega), e1]
            exact next _ _ _ (markRow_drawn _ _ _) (by omega) (by omega)
          · simp only [if_neg hv, Bool.false_eq_true, if_false, if_pos hlim, w1 rs hrp (by omega), if_pos (show 0 ≤ (rs.length : Int) - 1 by omega), if_pos (show (rs.length : Int) - 1 < (rs.length : Int) by omega), e1]
            exact next _ _ _ (drawnR_mono hd4 (by omega)) (by omega) (by omega)
        | false =>
          simp only [spec_l92Decided.j1, Bool.false_eq_true, if_false]
          by_cases hv2 : v = 2
          · simp only [if_pos hv2, if_pos hlim, w1 rs hrp (by omega), if_pos (show 0 ≤ (rs.length : Int) - 1 by omega), if_pos (show (rs.length : Int) - 1 < (rs.length : Int) by omega), e1]
            exact next _ _ _ (drawnR_mono hd4 (by omega)) (by omega) (by omega)
          · simp only [if_neg hv2, if_pos hlim, w1 rs hrp (by omega), if_pos (show 0 ≤ (rs.length : Int) - 1 by omega), if_pos (show (rs.length : Int) - 1 < (rs.length : Int) by omega), e1]
            exact next _ _ _ (drawnR_mono hd4 (by omega)) (by omega) (by omega)
      by_cases hv0 : v = 0
      · simp only [if_pos hv0]; exact main _
      · simp only [if_neg hv0]; exact main _
    · have hni : i = n := by omega
      subst hni
      refine Evs.succ ?_
      simp only [spec_l92Decided.l0, if_neg (show ¬ i < i by omega)]
      refine Evs.bind (pick_evs bs p 24 hb hl h0 (by omega) (by omega)) ?_
      rintro ⟨u, _⟩ ⟨u0, u1, rfl⟩
      by_cases hu : u = 0
      · have hlp := hpos (by omega)
        simp only [if_pos hu, if_pos (show 0 < (l.length : Int) by omega)]
        refine Evs.done (drawnBs_set (drawnBs_mono hdr (by omega)) _ ?_)
        show drawnR 5 (rb l ((0 : Nat) : Int)).f5
        rw [rb_nat l 0 hlp]
        exact hdr.2 _ (List.getElem_mem hlp)
      · simp only [if_neg hu]
        exact Evs.done (drawnBs_mono hdr (by omega))
theorem decided_evs (bs : List Int) (hb : Bytes bs) (hl : bs.length ≤ 2000) : Evs (fun k => spec_l92Decided.f k bs 0) (fun r => drawnBs 10 r.1) := by
  unfold spec_l92Decided.f
  refine Evs.bind (pick_evs bs 0 6 hb hl (by omega) (by omega) (by omega)) ?_
  rintro ⟨u, _⟩ ⟨u0, u1, rfl⟩
  refine Evs.bind (pick_evs bs (0 + 1) 5 hb hl (by omega) (by omega) (by omega)) ?_
  rintro ⟨v, _⟩ ⟨v0, v1, rfl⟩
  have e : wrap64 (2 + u) = 2 + u := wrap_id (by omega) (by omega)
  simp only [e]
  exact decided_loop bs hb hl (2 + u) (by omega) (by omega) 10 [] v 0 (0 + 1 + 1) (by omega) (by omega) (by omega) ⟨by simp, fun b hb => by cases hb⟩ (fun h => by omega) (by omega) (by omega)
end Go.Proofs.Yticpnjhkdfdkkaa.Q
namespace Go.Proofs.Yticpnjhkdfdkkaa.Q
open Go.RowKit Go.Proofs.Yticpnjhkdfdkkaa.T Go.Proofs.YticpnjhkdfdkkaaW.PrintWords Go.Proofs.YticpnjhkdfdkkaaW.PrintLast
set_option linter.unusedVariables false
set_option linter.unusedSimpArgs false
theorem drawStable {l0 : List Int} (hb : Bytes l0) : Evs (fun k => spec_DrawStableEnd.f k l0) (fun r => drawnBs 10 r) := by
  obtain ⟨b, ho, hb2, hbl⟩ := open_ev l0 hb
  unfold spec_DrawStableEnd.f
  simp only [ho, bsome]
  refine Evs.bind (decided_evs b hb2 hbl) ?_
  rintro ⟨r, p⟩ h
  exact Evs.done h
end Go.Proofs.Yticpnjhkdfdkkaa.Q
namespace Go.Proofs.Yticpnjhkdfdkkaa.Q
open Go.RowKit Go.Proofs.Yticpnjhkdfdkkaa.T Go.Proofs.YticpnjhkdfdkkaaW.PrintWords Go.Proofs.YticpnjhkdfdkkaaW.PrintLast
set_option linter.unusedVariables false
set_option linter.unusedSimpArgs false
abbrev pr (l : List Bt) (i : Nat) : Int := (rb l (i : Int)).f2
abbrev mk (l : List Bt) (i : Nat) : Bool := (rb l (i : Int)).f1
def nm (l : List Bt) : Nat → Nat → Option Nat
  | 0, _ => none
  | k + 1, i => match nm l k i with
    | some j => some j
    | none => if i < k ∧ mk l k = true ∧ pr l k = pr l i then some k else none
theorem nm_succ_some {l : List Bt} {k i j : Nat} (h : nm l k i = some j) : nm l (k + 1) i = some j := by simp only [nm, h]
theorem nm_le {l : List Bt} {i j : Nat} : ∀ {k m : Nat}, nm l k i = some j → k ≤ m → nm l m i = some j := by
  intro k m h hk
  induction m with
  | zero => have : k = 0 := by omega
            subst this; exact h
  | succ m ih =>
    by_cases he : k = m + 1
    · subst he; exact h
    · exact nm_succ_some (ih (by omega))
theorem nm_self {l : List Bt} : ∀ {k i : Nat}, k ≤ i + 1 → nm l k i = none
  | 0, _, _ => rfl
  | k + 1, i, h => by
    simp only [nm, nm_self (show k ≤ i + 1 by omega)]
    rw [if_neg (by omega)]
def wAt (l : List Bt) (k i : Nat) : Int := if pr l i = 255 then 1 else if mk l i = true then 3 else match nm l k i with
  | none => 0
  | some j => if tellsP (rb l (j : Int)) = true then 1 else 2
def bAt (l : List Bt) (k i : Nat) : Int := if pr l i = 255 then -1 else if mk l i = true then -1 else match nm l k i with
  | none => -1
  | some j => (j : Int)
def opens (l : List Bt) (k i : Nat) : Bool := decide (pr l i ≠ 255) && (!mk l i && (nm l k i).isNone)
theorem fold_fin (l : List Bt) (i : Nat) : ∀ (xs : List Nat) (s : FSt), (∀ x ∈ xs, x < s.ws.length ∧ x < s.bs.length) →
    (xs.foldl (fin1 l i) s).op = s.op ++ xs.filter (fun x => decide (pr l x ≠ pr l i)) ∧
    (∀ y, (xs.foldl (fin1 l i) s).ws.getD y 0 = if y ∈ xs ∧ pr l y = pr l i then (if tellsP (rb l (i : Int)) = true then 1 else 2) else s.ws.getD y 0) ∧
    (∀ y, (xs.foldl (fin1 l i) s).bs.getD y 0 = if y ∈ xs ∧ pr l y = pr l i then (i : Int) else s.bs.getD y 0)
  | [], s, _ => by simp
  | x :: xs, s, h => by
    have hx := h x (by simp)
    by_cases hp : pr l x = pr l i
    · have hf : fin1 l i s x = ⟨s.ws.set x (if tellsP (rb l (i : Int)) = true then 1 else 2), s.bs.set x (i : Int), s.op⟩ := if_pos hp
      have ih := fold_fin l i xs (fin1 l i s x) (fun y hy => by rw [hf]; simpa using h y (by simp [hy]))
      rw [List.foldl_cons]
      rw [hf] at ih ⊢
      refine ⟨?_, fun y => ?_, fun y => ?_⟩
      · rw [ih.1]; simp [hp]
      · rw [ih.2.1 y]
        by_cases hy : y = x
        · subst hy
          simp [hp, List.getD_eq_getElem?_getD, List.getElem?_set_self hx.1]
        · simp [hy, List.getD_eq_getElem?_getD, List.getElem?_set_ne (Ne.symm hy)]
      · rw [ih.2.2 y]
        by_cases hy : y = x
        · subst hy
          simp [hp, List.getD_eq_getElem?_getD, List.getElem?_set_self hx.2]
        · simp [hy, List.getD_eq_getElem?_getD, List.getElem?_set_ne (Ne.symm hy)]
    · have hf : fin1 l i s x = ⟨s.ws, s.bs, s.op ++ [x]⟩ := if_neg hp
      have ih := fold_fin l i xs (fin1 l i s x) (fun y hy => by rw [hf]; exact h y (by simp [hy]))
      rw [List.foldl_cons]
      rw [hf] at ih ⊢
      refine ⟨?_, fun y => ?_, fun y => ?_⟩
      · rw [ih.1]; simp [hp]
      · rw [ih.2.1 y]
        by_cases hy : y = x
        · subst hy; simp [hp]
        · simp [hy]
      · rw [ih.2.2 y]
        by_cases hy : y = x
        · subst hy; simp [hp]
        · simp [hy]
structure FP (l : List Bt) (k : Nat) (s : FSt) : Prop where
  op : s.op = (List.range k).filter (opens l k)
  ws : ∀ i, i < k → s.ws.getD i 0 = wAt l k i
  wz : ∀ i, k ≤ i → s.ws.getD i 0 = 0
  bs : ∀ i, i < k → s.bs.getD i 0 = bAt l k i
theorem nm_step {l : List Bt} {k i : Nat} (h : ¬ (mk l k = true ∧ pr l k = pr l i)) : nm l (k + 1) i = nm l k i := by
  cases hn : nm l k i with
  | some j => exact nm_succ_some hn
  | none => simp only [nm, hn]; rw [if_neg (fun h2 => h h2.2)]
theorem FP_step {l : List Bt} {k : Nat} (hk : k < l.length) {s : FSt} (hok : FOk l.length k s) (h : FP l k s) : FP l (k + 1) (fstep l s k) := by
  have hlw := hok.lw
  have hlb := hok.lb
  have gs : ∀ (a : List Int) (i x : Nat) (v : Int), x < a.length → (a.set x v).getD i 0 = if i = x then v else a.getD i 0 := by
    intro a i x v hx
    by_cases hi : i = x
    · subst hi; simp [List.getD_eq_getElem?_getD, List.getElem?_set_self hx]
    · simp [hi, List.getD_eq_getElem?_getD, List.getElem?_set_ne (Ne.symm hi)]
  unfold fstep
  by_cases h255 : pr l k = 255
  · rw [if_pos h255]
    have same : ∀ i, pr l i ≠ 255 → nm l (k + 1) i = nm l k i := fun i hi => nm_step (fun h2 => hi (h2.2.symm.trans h255))
    refine ⟨?_, fun i hi => ?_, fun i hi => ?_, fun i hi => ?_⟩
    · dsimp only
      rw [h.op, List.range_succ, List.filter_append]
      have h1 : [k].filter (opens l (k + 1)) = [] := by simp [opens, h255]
      rw [h1, List.append_nil]
      refine List.filter_congr (fun i hi => ?_)
      unfold opens
      by_cases hp : pr l i = 255
      · simp [hp]
      · rw [same i hp]
    · dsimp only
      rw [gs _ _ _ _ (by omega)]
      by_cases he : i = k
      · rw [if_pos he, he]; unfold wAt; rw [if_pos h255]
      · rw [if_neg he, h.ws i (by omega)]
        unfold wAt
        by_cases hp : pr l i = 255
        · rw [if_pos hp, if_pos hp]
        · rw [if_neg hp, if_neg hp, same i hp]
    · dsimp only
      rw [gs _ _ _ _ (by omega), if_neg (by omega)]
      exact h.wz i (by omega)
    · dsimp only
      rw [gs _ _ _ _ (by omega)]
      by_cases he : i = k
      · rw [if_pos he, he]; unfold bAt; rw [if_pos h255]
      · rw [if_neg he, h.bs i (by omega)]
        unfold bAt
        by_cases hp : pr l i = 255
        · rw [if_pos hp, if_pos hp]
        · rw [if_neg hp, if_neg hp, same i hp]
  · rw [if_neg h255]
    by_cases hm : mk l k = false
    · rw [if_pos hm]
      have same : ∀ i, nm l (k + 1) i = nm l k i := fun i => nm_step (fun h2 => by rw [hm] at h2; cases h2.1)
      have hk0 : nm l (k + 1) k = none := nm_self (Nat.le_refl _)
      refine ⟨?_, fun i hi => ?_, fun i hi => ?_, fun i hi => ?_⟩
      · dsimp only
        rw [h.op, List.range_succ, List.filter_append]
        have h1 : [k].filter (opens l (k + 1)) = [k] := by simp [opens, h255, hm, hk0]
        rw [h1]
        congr 1
        refine List.filter_congr (fun i hi => ?_)
        unfold opens
        rw [same i]
      · dsimp only
        by_cases he : i = k
        · rw [he, h.wz k (Nat.le_refl _)]
          unfold wAt
          rw [if_neg h255, if_neg (by rw [hm]; simp), hk0]
        · rw [h.ws i (by omega)]
          unfold wAt
          rw [same i]
      · dsimp only
        exact h.wz i (by omega)
      · dsimp only
        rw [gs _ _ _ _ (by omega)]
        by_cases he : i = k
        · rw [if_pos he, he]; unfold bAt; rw [if_neg h255, if_neg (by rw [hm]; simp), hk0]
        · rw [if_neg he, h.bs i (by omega)]
          unfold bAt
          rw [same i]
    · have hm' : mk l k = true := by simpa using hm
      rw [if_neg hm]
      have hop : ∀ x, x ∈ s.op ↔ x < k ∧ pr l x ≠ 255 ∧ mk l x = false ∧ nm l k x = none := by
        intro x
        rw [h.op, List.mem_filter, List.mem_range]
        simp [opens]
      have hF := fold_fin l k s.op ⟨s.ws.set k 3, s.bs.set k (-1), []⟩ (fun x hx => by
        have := hok.op x hx
        simp only [List.length_set]
        omega)
      dsimp only at hF
      have hn : ∀ i, i < k → nm l (k + 1) i = match nm l k i with | some j => some j | none => if pr l k = pr l i then some k else none := by
        intro i hi
        simp only [nm]
        cases nm l k i with
        | some j => rfl
        | none => simp [hi, hm']
      refine ⟨?_, fun i hi => ?_, fun i hi => ?_, fun i hi => ?_⟩
      · rw [hF.1, List.nil_append, h.op, List.range_succ, List.filter_append, List.filter_filter]
        have h1 : [k].filter (opens l (k + 1)) = [] := by simp [opens, hm']
        rw [h1, List.append_nil]
        refine List.filter_congr (fun i hi => ?_)
        rw [List.mem_range] at hi
        unfold opens
        rw [hn i hi]
        cases hni : nm l k i with
        | some j => simp
        | none =>
          by_cases hp : pr l k = pr l i
          · simp [hp]
          · have hp2 : ¬ pr l i = pr l k := fun e => hp e.symm
            simp [hp, hp2]
      · rw [hF.2.1 i]
        by_cases he : i = k
        · subst he
          rw [if_neg (by rw [hop]; omega), gs _ _ _ _ (by omega), if_pos rfl]
          unfold wAt
          rw [if_neg h255, if_pos hm']
        · have hik : i < k := by omega
          rw [gs _ _ _ _ (by omega), if_neg he, h.ws i hik]
          unfold wAt
          by_cases hp : pr l i = 255
          · rw [if_neg (by rw [hop]; exact fun h2 => h2.1.2.1 hp), if_pos hp, if_pos hp]
          · rw [if_neg hp, if_neg hp]
            by_cases hmi : mk l i = true
            · rw [if_neg (by rw [hop]; intro h2; rw [hmi] at h2; cases h2.1.2.2.1), if_pos hmi, if_pos hmi]
            · rw [if_neg hmi, if_neg hmi, hn i hik]
              cases hni : nm l k i with
              | some j => rw [if_neg (by rw [hop, hni]; intro h2; cases h2.1.2.2.2)]
              | none =>
                by_cases hpk : pr l i = pr l k
                · rw [if_pos ⟨(hop i).2 ⟨hik, hp, by simpa using hmi, hni⟩, hpk⟩]
                  simp [hpk]
                · rw [if_neg (fun h2 => hpk h2.2)]
                  have hp2 : ¬ pr l k = pr l i := fun e => hpk e.symm
                  simp [hp2]
      · rw [hF.2.1 i, if_neg (by rw [hop]; omega), gs _ _ _ _ (by omega), if_neg (by omega)]
        exact h.wz i (by omega)
      · rw [hF.2.2 i]
        by_cases he : i = k
        · subst he
          rw [if_neg (by rw [hop]; omega), gs _ _ _ _ (by omega), if_pos rfl]
          unfold bAt
          rw [if_neg h255, if_pos hm']
        · have hik : i < k := by omega
          rw [gs _ _ _ _ (by omega), if_neg he, h.bs i hik]
          unfold bAt
          by_cases hp : pr l i = 255
          · rw [if_neg (by rw [hop]; exact fun h2 => h2.1.2.1 hp), if_pos hp, if_pos hp]
          · rw [if_neg hp, if_neg hp]
            by_cases hmi : mk l i = true
            · rw [if_neg (by rw [hop]; intro h2; rw [hmi] at h2; cases h2.1.2.2.1), if_pos hmi, if_pos hmi]
            · rw [if_neg hmi, if_neg hmi, hn i hik]
              cases hni : nm l k i with
              | some j => rw [if_neg (by rw [hop, hni]; intro h2; cases h2.1.2.2.2)]
              | none =>
                by_cases hpk : pr l i = pr l k
                · rw [if_pos ⟨(hop i).2 ⟨hik, hp, by simpa using hmi, hni⟩, hpk⟩]
                  simp [hpk]
                · rw [if_neg (fun h2 => hpk h2.2)]
                  have hp2 : ¬ pr l k = pr l i := fun e => hpk e.symm
                  simp [hp2]
theorem FP_all (l : List Bt) : ∀ k, k ≤ l.length → FP l k (fatesTo l k)
  | 0, _ => ⟨by simp [fatesTo, fates0], fun i h => by omega, fun i h => by simp [fatesTo, fates0, List.getD_eq_getElem?_getD, List.getElem?_replicate]; split <;> rfl, fun i h => by omega⟩
  | k + 1, h => by
    rw [fatesTo_succ]
    exact FP_step (by omega) (fates_ok l k (by omega)) (FP_all l k (by omega))
theorem fates_len (l : List Bt) : (fatesTo l l.length).ws.length = l.length ∧ (fatesTo l l.length).bs.length = l.length := ⟨(fates_ok l _ (Nat.le_refl _)).lw, (fates_ok l _ (Nat.le_refl _)).lb⟩
theorem fates_w (l : List Bt) (i : Nat) (h : i < l.length) : rd (fatesTo l l.length).ws (i : Int) = wAt l l.length i := by
  have := (FP_all l l.length (Nat.le_refl _)).ws i h
  unfold rd
  rwa [Int.toNat_natCast]
theorem fates_fit {l : List Bt} (h : VL l) : impl_fatesOf.f l = some ((fatesTo l l.length).ws, (fatesTo l l.length).bs) := by
  unfold impl_fatesOf.f
  rw [if_pos]
  unfold fatesFit
  rw [Bool.and_eq_true, decide_eq_true_eq, List.all_eq_true]
  refine ⟨by have := h.1; omega, fun b hb => ?_⟩
  obtain ⟨j, hj, rfl⟩ := List.getElem_of_mem hb
  have := (vB_pos (VL_at h j hj)).1
  rw [rb_nat l j hj] at this
  exact decide_eq_true (by omega)
end Go.Proofs.Yticpnjhkdfdkkaa.Q
namespace Go.Proofs.Yticpnjhkdfdkkaa.Q
open Go.RowKit Go.Proofs.Yticpnjhkdfdkkaa.T Go.Proofs.YticpnjhkdfdkkaaW.PrintWords Go.Proofs.YticpnjhkdfdkkaaW.PrintLast
set_option linter.unusedVariables false
set_option linter.unusedSimpArgs false
def nmI : Option Nat → Int
  | none => -1
  | some j => (j : Int)
theorem specMark_loop (l : List Bt) (hl : l.length ≤ 2000000) (i : Nat) (hi : i < l.length) : ∀ (d j : Nat), l.length - j = d → i < j → j ≤ l.length → nm l j i = none → Ev (fun k => spec_l22Mark.l0 k l (i : Int) (j : Int)) (nmI (nm l l.length i)) := by
  intro d
  induction d with
  | zero =>
    intro j hd h1 h2 hn
    have hj : j = l.length := by omega
    subst hj
    refine ev_succ ?_
    simp only [spec_l22Mark.l0, if_neg (show ¬ (l.length : Int) < (l.length : Int) by omega), hn]
    exact ev_some _
  | succ d ih =>
    intro j hd h1 h2 hn
    have e1 : wrap64 ((j : Int) + 1) = ((j + 1 : Nat) : Int) := by rw [wrap_id (by omega) (by omega)]; omega
    refine ev_succ ?_
    simp only [spec_l22Mark.l0, if_pos (show (j : Int) < (l.length : Int) by omega), if_pos (show (0 : Int) ≤ (j : Int) by omega), e1]
    have next : ¬ (mk l j = true ∧ pr l j = pr l i) → Ev (fun k => spec_l22Mark.l0 k l (i : Int) ((j + 1 : Nat) : Int)) (nmI (nm l l.length i)) := fun h => ih (j + 1) (by omega) (by omega) (by omega) (by rw [nm_step h]; exact hn)
    by_cases hm : mk l j = true
    · simp only [if_pos (show (rd_T27 l (j : Int)).f1 = true from hm), if_pos (show (0 : Int) ≤ (i : Int) by omega), if_pos (show (i : Int) < (l.length : Int) by omega)]
      by_cases hp : pr l j = pr l i
      · simp only [if_pos (show (rd_T27 l (j : Int)).f2 = (rd_T27 l (i : Int)).f2 from hp)]
        have h3 : nm l (j + 1) i = some j := by simp only [nm, hn]; rw [if_pos ⟨h1, hm, hp⟩]
        rw [nm_le h3 (by omega)]
        exact ev_some _
      · simp only [if_neg (show ¬ (rd_T27 l (j : Int)).f2 = (rd_T27 l (i : Int)).f2 from hp)]
        exact next (fun h => hp h.2)
    · simp only [if_neg (show ¬ (rd_T27 l (j : Int)).f1 = true from hm)]
      exact next (fun h => hm h.1)
theorem specMarkAt (l : List Bt) (hl : l.length ≤ 2000000) (i : Nat) (hi : i < l.length) : Ev (fun k => spec_l22Mark.f k l (i : Int)) (nmI (nm l l.length i)) := by
  unfold spec_l22Mark.f
  have e1 : wrap64 ((i : Int) + 1) = ((i + 1 : Nat) : Int) := by rw [wrap_id (by omega) (by omega)]; omega
  rw [e1]
  exact specMark_loop l hl i hi _ (i + 1) rfl (by omega) (by omega) (nm_self (Nat.le_refl _))
theorem ours_eq (b : Bt) : spec_l22Ours.f b.f0 b.f1 b.f2 b.f3 b.f4 b.f5 = some (decide (b.f2 ≠ 255) && !b.f1) := by
  unfold spec_l22Ours.f
  by_cases h : b.f2 = 255
  · rw [if_pos h]; simp [h]
  · rw [if_neg h]; simp [h]
theorem nmI_neg (o : Option Nat) : nmI o < 0 ↔ o = none := by
  cases o with
  | none => simp [nmI]
  | some j => simp only [nmI]; constructor
              · intro h; omega
              · intro h; cases h
theorem opens_iff (l : List Bt) (k i : Nat) : opens l k i = true ↔ pr l i ≠ 255 ∧ mk l i = false ∧ nm l k i = none := by
  unfold opens
  simp
theorem wAt_zero (l : List Bt) (k i : Nat) : wAt l k i = 0 ↔ opens l k i = true := by
  rw [opens_iff]
  unfold wAt
  by_cases h : pr l i = 255
  · simp [h]
  · by_cases h2 : mk l i = true
    · simp [h, h2]
    · cases h3 : nm l k i with
      | none => simp [h, h2]
      | some j => by_cases h4 : tellsP (rb l (j : Int)) = true <;> simp [h, h2, h4]
def tailP (l : List Bt) : Int := if l.length = 0 then 0 else lOff (rb l ((l.length : Int) - 1)) + 1
def EndP (l : List Bt) (r : Int) : Prop := (∃ i, i < l.length ∧ opens l l.length i = true ∧ (∀ j, j < i → opens l l.length j = false) ∧ r = fOff (rb l (i : Int))) ∨ ((∀ j, j < l.length → opens l l.length j = false) ∧ r = tailP l)
theorem EndP_unique {l : List Bt} {r r' : Int} (h : EndP l r) (h' : EndP l r') : r = r' := by
  rcases h with ⟨i, h1, h2, h3, h4⟩ | ⟨h1, h2⟩
  · rcases h' with ⟨i', h1', h2', h3', h4'⟩ | ⟨h1', h2'⟩
    · have : i = i' := by
        rcases Nat.lt_trichotomy i i' with h | h | h
        · have := h3' i h; rw [h2] at this; cases this
        · exact h
        · have := h3 i' h; rw [h2'] at this; cases this
      rw [h4, h4', this]
    · have := h1' i h1; rw [h2] at this; cases this
  · rcases h' with ⟨i', h1', h2', h3', h4'⟩ | ⟨h1', h2'⟩
    · have := h1 i' h1'; rw [h2'] at this; cases this
    · rw [h2, h2']
theorem EndP_pos {l : List Bt} (h : VL l) {r : Int} (he : EndP l r) : 0 ≤ r := by
  rcases he with ⟨i, h1, _, _, rfl⟩ | ⟨_, rfl⟩
  · exact (fOff_range (VL_at h i h1)).1
  · unfold tailP
    split
    · omega
    · have := lOff_range (VL_at h (l.length - 1) (by omega))
      rw [show ((l.length - 1 : Nat) : Int) = (l.length : Int) - 1 by omega] at this
      omega
theorem VL_last {l : List Bt} (h : VL l) (h0 : l.length ≠ 0) : vB (rb l ((l.length : Int) - 1)) := by
  have := VL_at h (l.length - 1) (by omega)
  rwa [show ((l.length - 1 : Nat) : Int) = (l.length : Int) - 1 by omega] at this
def StP (l : List Bt) (r : Int) : Prop := (VL l ∧ EndP l r) ∨ (¬ VL l ∧ r = -1)
theorem StP_unique {l : List Bt} {r r' : Int} (h : StP l r) (h' : StP l r') : r = r' := by
  rcases h with ⟨h1, h2⟩ | ⟨h1, h2⟩
  · rcases h' with ⟨_, h2'⟩ | ⟨h1', _⟩
    · exact EndP_unique h2 h2'
    · exact absurd h1 h1'
  · rcases h' with ⟨h1', _⟩ | ⟨_, h2'⟩
    · exact absurd h1' h1
    · rw [h2, h2']
theorem vl_true {l : List Bt} (h : VL l) : vl l = true := (vl_iff l).2 h
theorem vl_false {l : List Bt} (h : ¬ VL l) : vl l = false := by rw [← Bool.not_eq_true, vl_iff]; exact h
theorem implEnd (l : List Bt) (hl : smallBs l) (h : VL l) : Ev (fun k => impl_ReadEnd.f k l) (tailP l) := by
  have hs := hl.1
  unfold impl_ReadEnd.f tailP
  refine Ev.bind (implLog l hl) ?_
  rw [vl_true h]
  simp only [if_true]
  by_cases h0 : l.length = 0
  · rw [if_pos h0]
    simp only [if_pos (show (l.length : Int) = 0 by omega)]
    exact ev_some _
  · have e : wrap64 ((l.length : Int) - 1) = (l.length : Int) - 1 := wrap_id (by omega) (by omega)
    have hv := VL_last h h0
    have hr := lOff_range hv
    have e2 : wrap64 (lOff (rb l ((l.length : Int) - 1)) + 1) = lOff (rb l ((l.length : Int) - 1)) + 1 := wrap_id (by omega) (by omega)
    have f := last_eq hv
    rw [if_neg h0]
    simp only [if_neg (show ¬ (l.length : Int) = 0 by omega), e, if_pos (show 0 ≤ (l.length : Int) - 1 by omega), if_pos (show (l.length : Int) - 1 < (l.length : Int) by omega)]
    rw [show (rd_T27 l ((l.length : Int) - 1)) = rb l ((l.length : Int) - 1) from rfl, f]
    simp only [bsome, e2]
    exact ev_some _
theorem implStable_loop (l : List Bt) (hl : smallBs l) (h : VL l) : ∀ (d i : Nat), l.length - i = d → i ≤ l.length → (∀ j, j < i → opens l l.length j = false) → Evs (fun k => impl_StableEnd.l0 k l (fatesTo l l.length).ws (l.length : Int) (i : Int)) (EndP l) := by
  have hs := hl.1
  have hw := (fates_len l).1
  intro d
  induction d with
  | zero =>
    intro i hd hi ho
    refine Evs.succ ?_
    simp only [impl_StableEnd.l0, if_neg (show ¬ (i : Int) < (l.length : Int) by omega)]
    refine Evs.bind (Evs.of (implEnd l hl h) rfl) ?_
    rintro _ rfl
    exact Evs.done (.inr ⟨fun j hj => ho j (by omega), rfl⟩)
  | succ d ih =>
    intro i hd hi ho
    have hlt : i < l.length := by omega
    have e1 : wrap64 ((i : Int) + 1) = ((i + 1 : Nat) : Int) := by rw [wrap_id (by omega) (by omega)]; omega
    refine Evs.succ ?_
    simp only [impl_StableEnd.l0, if_pos (show (i : Int) < (l.length : Int) by omega), if_pos (show (0 : Int) ≤ (i : Int) by omega), hw, e1, fates_w l i hlt]
    by_cases hz : opens l l.length i = true
    · simp only [if_pos ((wAt_zero l l.length i).2 hz)]
      have f := first_eq (VL_at h i hlt)
      rw [show (rd_T27 l (i : Int)) = rb l (i : Int) from rfl, f]
      simp only [bsome]
      exact Evs.done (.inl ⟨i, hlt, hz, ho, rfl⟩)
    · simp only [if_neg (fun h2 => hz ((wAt_zero l l.length i).1 h2))]
      refine ih (i + 1) (by omega) (by omega) (fun j hj => ?_)
      by_cases he : j = i
      · subst he; simpa using hz
      · exact ho j (by omega)
theorem implStable (l : List Bt) (hl : smallBs l) : Evs (fun k => impl_StableEnd.f k l) (StP l) := by
  unfold impl_StableEnd.f
  refine Evs.bind (Evs.of (implLog l hl) rfl) ?_
  rintro _ rfl
  by_cases h : VL l
  · rw [vl_true h]
    simp only [if_true, fates_fit h, bsome]
    have := implStable_loop l hl h l.length 0 (by omega) (by omega) (fun j hj => by omega)
    have h2 := (fates_len l).1
    simp only [h2]
    exact this.mono (fun r hr => Or.inl ⟨h, hr⟩)
  · rw [vl_false h]
    simp only [Bool.false_eq_true, if_false]
    exact Evs.done (.inr ⟨h, rfl⟩)
theorem specEnd_loop (l : List Bt) (hl : smallBs l) (h : VL l) : ∀ (d i : Nat), l.length - i = d → i ≤ l.length → (∀ j, j < i → opens l l.length j = false) → Evs (fun k => spec_l22End.l0 k l (i : Int)) (EndP l) := by
  have hs := hl.1
  intro d
  induction d with
  | zero =>
    intro i hd hi ho
    refine Evs.succ ?_
    simp only [spec_l22End.l0, if_neg (show ¬ (i : Int) < (l.length : Int) by omega)]
    by_cases h0 : l.length = 0
    · simp only [if_pos (show (l.length : Int) = 0 by omega)]
      exact Evs.done (.inr ⟨fun j hj => by omega, by unfold tailP; rw [if_pos h0]⟩)
    · have e : wrap64 ((l.length : Int) - 1) = (l.length : Int) - 1 := wrap_id (by omega) (by omega)
      have hv := VL_last h h0
      have hr := lOff_range hv
      have e2 : wrap64 (lOff (rb l ((l.length : Int) - 1)) + 1) = lOff (rb l ((l.length : Int) - 1)) + 1 := wrap_id (by omega) (by omega)
      have f := lastS_eq hv
      simp only [if_neg (show ¬ (l.length : Int) = 0 by omega), e, if_pos (show 0 ≤ (l.length : Int) - 1 by omega), if_pos (show (l.length : Int) - 1 < (l.length : Int) by omega)]
      rw [show (rd_T27 l ((l.length : Int) - 1)) = rb l ((l.length : Int) - 1) from rfl, f]
      simp only [bsome, e2]
      exact Evs.done (.inr ⟨fun j hj => ho j (by omega), by unfold tailP; rw [if_neg h0]⟩)
  | succ d ih =>
    intro i hd hi ho
    have hlt : i < l.length := by omega
    have e1 : wrap64 ((i : Int) + 1) = ((i + 1 : Nat) : Int) := by rw [wrap_id (by omega) (by omega)]; omega
    have next : opens l l.length i = false → Evs (fun k => spec_l22End.l0 k l ((i + 1 : Nat) : Int)) (EndP l) := fun hz => ih (i + 1) (by omega) (by omega) (fun j hj => by
      by_cases he : j = i
      · subst he; exact hz
      · exact ho j (by omega))
    refine Evs.succ ?_
    have f := ours_eq (rb l (i : Int))
    simp only [spec_l22End.l0, if_pos (show (i : Int) < (l.length : Int) by omega), if_pos (show (0 : Int) ≤ (i : Int) by omega), e1]
    rw [show (rd_T27 l (i : Int)) = rb l (i : Int) from rfl, f]
    simp only [bsome]
    by_cases hu : (decide ((rb l (i : Int)).f2 ≠ 255) && !(rb l (i : Int)).f1) = true
    · simp only [if_pos hu]
      refine Evs.bind (Evs.of (specMarkAt l hs i hlt) rfl) ?_
      rintro _ rfl
      have hu2 : pr l i ≠ 255 ∧ mk l i = false := by simpa using hu
      cases hn : nm l l.length i with
      | none =>
        have hpos := (vB_pos (VL_at h i hlt)).1
        simp only [if_pos ((nmI_neg none).2 rfl), if_pos (show 0 < ((rb l (i : Int)).f5.length : Int) by omega)]
        exact Evs.done (.inl ⟨i, hlt, (opens_iff _ _ _).2 ⟨hu2.1, hu2.2, hn⟩, ho, rfl⟩)
      | some j =>
        simp only [if_neg (show ¬ nmI (some j) < 0 from fun h2 => by have := (nmI_neg _).1 h2; cases this)]
        exact next (by rw [← Bool.not_eq_true, opens_iff, hn]; exact fun h2 => by cases h2.2.2)
    · simp only [if_neg hu]
      exact next (by rw [← Bool.not_eq_true, opens_iff]; exact fun h2 => hu (by simp [h2.1, h2.2.1]))
theorem specStable (l : List Bt) (hl : smallBs l) : Evs (fun k => spec_StableEnd.f k l) (StP l) := by
  unfold spec_StableEnd.f
  refine Evs.bind (Evs.of (specLog l hl) rfl) ?_
  rintro _ rfl
  by_cases h : VL l
  · rw [vl_true h]
    simp only [if_true]
    unfold spec_l22End.f
    refine Evs.bind (specEnd_loop l hl h l.length 0 (by omega) (by omega) (fun j hj => by omega)) ?_
    intro r hr
    exact Evs.done (.inl ⟨h, hr⟩)
  · rw [vl_false h]
    simp only [Bool.false_eq_true, if_false]
    exact Evs.done (.inr ⟨h, rfl⟩)
end Go.Proofs.Yticpnjhkdfdkkaa.Q
namespace Go.Proofs.Yticpnjhkdfdkkaa.Q
open Go.RowKit Go.Proofs.Yticpnjhkdfdkkaa.T Go.Proofs.YticpnjhkdfdkkaaW.PrintWords Go.Proofs.YticpnjhkdfdkkaaW.PrintLast
set_option linter.unusedVariables false
set_option linter.unusedSimpArgs false
theorem clone_eq (l : List Int) (h : l.length ≤ 1048576) : slices_Clone_int_int.f l = some l := by
  unfold slices_Clone_int_int.f
  rw [if_pos (by omega)]
def okc (r : Rc) : Prop := r.f3.length ≤ 1048576 ∧ r.f5.length ≤ 1048576
theorem copyRec (r : Rc) (h : okc r) : impl_Record_copyOf.f r.f0 r.f1 r.f2 r.f3 r.f4 r.f5 = some (r.f0, r.f1, r.f2, r.f3, r.f4, r.f5) := by
  unfold impl_Record_copyOf.f
  rw [clone_eq _ h.1, bsome, clone_eq _ h.2, bsome]
theorem take_snoc {α : Type} (l : List α) (i : Nat) (h : i < l.length) : l.take i ++ [l[i]] = l.take (i + 1) := by
  rw [List.take_add_one, List.getElem?_eq_getElem h]
  rfl
theorem copyRecs_loop (l : List Rc) (hl : l.length ≤ 1048576) (hx : ∀ r ∈ l, okc r) : ∀ (d i : Nat), l.length - i = d → i ≤ l.length → Ev (fun k => impl_copyRecords.l0 k (l.take i) l (l.length : Int) (i : Int)) l := by
  intro d
  induction d with
  | zero =>
    intro i hd hi
    refine ev_succ ?_
    simp only [impl_copyRecords.l0, if_neg (show ¬ (i : Int) < (l.length : Int) by omega)]
    rw [List.take_of_length_le (by omega)]
    exact ev_some _
  | succ d ih =>
    intro i hd hi
    have hlt : i < l.length := by omega
    have e1 : wrap64 ((i : Int) + 1) = ((i + 1 : Nat) : Int) := by rw [wrap_id (by omega) (by omega)]; omega
    have hr : rd_T34 l (i : Int) = l[i] := rr_nat l i hlt
    have next := ih (i + 1) (by omega) (by omega)
    refine ev_succ ?_
    simp only [impl_copyRecords.l0, if_pos (show (i : Int) < (l.length : Int) by omega), if_pos (show (0 : Int) ≤ (i : Int) by omega), e1, hr, copyRec l[i] (hx _ (List.getElem_mem hlt)), bsome, if_pos (show (l.take i).length < 1759218604441 by rw [List.length_take]; omega)]
    rw [← take_snoc l i hlt] at next
    exact next
theorem copyRecs (l : List Rc) (hl : l.length ≤ 1048576) (hx : ∀ r ∈ l, okc r) : Ev (fun k => impl_copyRecords.f k l) l := by
  unfold impl_copyRecords.f
  simp only [if_pos (show (0 : Int) ≤ (l.length : Int) by omega), if_pos (show ((l.length : Int)).toNat ≤ 3518437208883 by omega)]
  exact copyRecs_loop l hl hx l.length 0 (by omega) (by omega)
theorem pv_len {has : Bool} {l : List Int} (h : pv has l = true) : l.length ≤ 12 := by
  unfold pv at h
  split at h
  · simp only [Bool.and_eq_true, decide_eq_true_eq] at h
    exact h.1
  · simp only [decide_eq_true_eq] at h
    omega
theorem rv_okc {r : Rc} (h : rv r = true) : okc r := by
  unfold rv at h
  simp only [Bool.and_eq_true] at h
  have h1 := pv_len h.2.1
  have h2 := pv_len h.2.2
  exact ⟨by omega, by omega⟩
theorem vB_okc {b : Bt} (h : vB b) : ∀ r ∈ b.f5, okc r := by
  intro r hr
  obtain ⟨j, hj, rfl⟩ := List.getElem_of_mem hr
  have := (h.2.2.2 j (Nat.zero_le _) hj).1
  rw [rr_nat b.f5 j hj] at this
  exact rv_okc this
end Go.Proofs.Yticpnjhkdfdkkaa.Q
namespace Go.Proofs.Yticpnjhkdfdkkaa.Q
open Go.RowKit Go.Proofs.Yticpnjhkdfdkkaa.T Go.Proofs.YticpnjhkdfdkkaaW.PrintWords Go.Proofs.YticpnjhkdfdkkaaW.PrintLast
set_option linter.unusedVariables false
set_option linter.unusedSimpArgs false
def rAt (l : List Bt) (i : Nat) : List Rc := if wAt l l.length i = 1 then (rb l (i : Int)).f5 else []
def recTo (l : List Bt) (i : Nat) : List Rc := ((List.range i).map (rAt l)).flatten
theorem recTo_succ (l : List Bt) (i : Nat) : recTo l (i + 1) = recTo l i ++ rAt l i := by
  unfold recTo
  rw [List.range_succ, List.map_append, List.flatten_append]
  simp
theorem rAt_len {l : List Bt} (h : VL l) (i : Nat) (hi : i < l.length) : (rAt l i).length ≤ 6 := by
  unfold rAt
  split
  · exact (vB_pos (VL_at h i hi)).2
  · simp
theorem recTo_len {l : List Bt} (h : VL l) : ∀ i, i ≤ l.length → (recTo l i).length ≤ 6 * i
  | 0, _ => by simp [recTo]
  | i + 1, hi => by
    rw [recTo_succ, List.length_append]
    have h1 := recTo_len h i (by omega)
    have h2 := rAt_len h i (by omega)
    omega
theorem recTo_mem {l : List Bt} {r : Rc} : ∀ {i : Nat}, r ∈ recTo l i → ∃ q, q < i ∧ wAt l l.length q = 1 ∧ r ∈ (rb l (q : Int)).f5
  | 0, hr => by simp [recTo] at hr
  | i + 1, hr => by
    rw [recTo_succ] at hr
    rcases List.mem_append.1 hr with h | h
    · obtain ⟨q, h1, h2⟩ := recTo_mem h
      exact ⟨q, by omega, h2⟩
    · unfold rAt at h
      split at h
      · exact ⟨i, by omega, by assumption, h⟩
      · simp at h
def StR (l : List Bt) (r : List Rc) : Prop := ∃ e, e ≤ l.length ∧ (∀ j, j < e → opens l l.length j = false) ∧ (e < l.length → opens l l.length e = true) ∧ r = recTo l e
theorem implStab_loop (l : List Bt) (hl : smallBs l) (h : VL l) : ∀ (d i : Nat), l.length - i = d → i ≤ l.length → (∀ j, j < i → opens l l.length j = false) → Evs (fun k => impl_StableRecords.l0 k l (recTo l i) (fatesTo l l.length).ws (l.length : Int) (i : Int)) (StR l) := by
  have hs := h.1
  have hw := (fates_len l).1
  intro d
  induction d with
  | zero =>
    intro i hd hi ho
    refine Evs.succ ?_
    simp only [impl_StableRecords.l0, if_neg (show ¬ (i : Int) < (l.length : Int) by omega)]
    exact Evs.done ⟨i, hi, ho, fun h => by omega, rfl⟩
  | succ d ih =>
    intro i hd hi ho
    have hlt : i < l.length := by omega
    have e1 : wrap64 ((i : Int) + 1) = ((i + 1 : Nat) : Int) := by rw [wrap_id (by omega) (by omega)]; omega
    refine Evs.succ ?_
    simp only [impl_StableRecords.l0, if_pos (show (i : Int) < (l.length : Int) by omega), if_pos (show (0 : Int) ≤ (i : Int) by omega), hw, e1, fates_w l i hlt]
    by_cases hz : opens l l.length i = true
    · simp only [if_pos ((wAt_zero l l.length i).2 hz)]
      exact Evs.done ⟨i, hi, ho, fun _ => hz, rfl⟩
    · have hnext : ∀ j, j < i + 1 → opens l l.length j = false := fun j hj => by
        by_cases he : j = i
        · subst he; simpa using hz
        · exact ho j (by omega)
      have next := ih (i + 1) (by omega) (by omega) hnext
      simp only [if_neg (fun h2 => hz ((wAt_zero l l.length i).1 h2))]
      by_cases h1 : wAt l l.length i = 1
      · have hv := VL_at h i hlt
        have hp := (vB_pos hv).2
        have hc : Ev (fun k => impl_copyRecords.f k (rd_T27 l (i : Int)).f5) (rb l (i : Int)).f5 := copyRecs (rb l (i : Int)).f5 (by omega) (vB_okc hv)
        have hlen := recTo_len h i (by omega)
        simp only [if_pos h1]
        refine Evs.bind (Evs.of hc rfl) ?_
        rintro _ rfl
        simp only [if_pos (show (recTo l i).length + (rb l (i : Int)).f5.length < 1759218604441 by omega)]
        rw [recTo_succ, show rAt l i = (rb l (i : Int)).f5 from if_pos h1] at next
        exact next
      · simp only [if_neg h1]
        rw [recTo_succ, show rAt l i = [] from if_neg h1, List.append_nil] at next
        exact next
theorem implStab (l : List Bt) (hl : smallBs l) (h : VL l) : Evs (fun k => impl_StableRecords.f k l) (StR l) := by
  have h2 := (fates_len l).1
  unfold impl_StableRecords.f
  simp only [bsome]
  refine Evs.bind (Evs.of (implLog l hl) rfl) ?_
  rintro _ rfl
  rw [vl_true h]
  simp only [if_true, fates_fit h, bsome, h2]
  exact implStab_loop l hl h l.length 0 (by omega) (by omega) (fun j hj => by omega)
theorem StR_unique {l : List Bt} {r r' : List Rc} (h : StR l r) (h' : StR l r') : r = r' := by
  obtain ⟨e, h1, h2, h3, rfl⟩ := h
  obtain ⟨e', h1', h2', h3', rfl⟩ := h'
  rcases Nat.lt_trichotomy e e' with h | h | h
  · have := h2' e h; rw [h3 (by omega)] at this; cases this
  · rw [h]
  · have := h2 e' h; rw [h3' (by omega)] at this; cases this
theorem StR_len {l : List Bt} (h : VL l) {r : List Rc} (hr : StR l r) : r.length ≤ 48 := by
  obtain ⟨e, h1, _, _, rfl⟩ := hr
  have := recTo_len h e h1
  have := h.1
  omega
theorem recTo_okc {l : List Bt} (h : VL l) {i : Nat} (hi : i ≤ l.length) : ∀ r ∈ recTo l i, okc r := by
  intro r hr
  obtain ⟨q, h1, _, h2⟩ := recTo_mem hr
  exact vB_okc (VL_at h q (by omega)) r h2
theorem StR_okc {l : List Bt} (h : VL l) {r : List Rc} (hr : StR l r) : ∀ x ∈ r, okc x := by
  obtain ⟨e, h1, _, _, rfl⟩ := hr
  exact recTo_okc h h1
theorem StR_small {l : List Bt} (h : VL l) {r : List Rc} (hr : StR l r) : smallRs r := by
  have := StR_len h hr
  exact ⟨by omega, fun x hx => by have := StR_okc h hr x hx; exact ⟨by have := this.1; omega, by have := this.2; omega⟩⟩
end Go.Proofs.Yticpnjhkdfdkkaa.Q
namespace Go.Proofs.Yticpnjhkdfdkkaa.Q
open Go.RowKit Go.Proofs.Yticpnjhkdfdkkaa.T Go.Proofs.YticpnjhkdfdkkaaW.PrintWords Go.Proofs.YticpnjhkdfdkkaaW.PrintLast
set_option linter.unusedVariables false
set_option linter.unusedSimpArgs false
theorem sameInts_loop (a b : List Int) (hl : a.length = b.length) (hs : a.length ≤ 1000000000000000) : ∀ (d i : Nat), a.length - i = d → i ≤ a.length → Ev (fun k => laws_sameInts.l0 k a b (i : Int)) (decide (a.drop i = b.drop i)) := by
  intro d
  induction d with
  | zero =>
    intro i hd hi
    rw [show a.drop i = [] from List.drop_eq_nil_of_le (by omega), show b.drop i = [] from List.drop_eq_nil_of_le (by omega)]
    refine ev_succ ?_
    simp only [laws_sameInts.l0, if_neg (show ¬ (i : Int) < (a.length : Int) by omega), decide_true]
    exact ev_some _
  | succ d ih =>
    intro i hd hi
    have hlt : (i : Int) < (a.length : Int) := by omega
    have e1 : wrap64 ((i : Int) + 1) = ((i + 1 : Nat) : Int) := by rw [wrap_id (by omega) (by omega)]; omega
    rw [drop_int (show i < a.length by omega), drop_int (show i < b.length by omega)]
    refine ev_succ ?_
    simp only [laws_sameInts.l0, if_pos hlt, if_pos (show (0 : Int) ≤ i by omega), if_pos (show (i : Int) < (b.length : Int) by omega), e1]
    by_cases h0 : rd a i = rd b i
    · simp only [if_pos h0]
      have := ih (i + 1) (by omega) (by omega)
      simpa [h0] using this
    · simp only [if_neg h0]
      rw [decide_eq_false (by simp [h0])]
      exact ev_some _
theorem sameInts (a b : List Int) (hs : a.length ≤ 1000000000000000) : Ev (fun k => laws_sameInts.f k a b) (decide (a = b)) := by
  unfold laws_sameInts.f
  by_cases h : (a.length : Int) = (b.length : Int)
  · simp only [if_pos h]
    have := sameInts_loop a b (by omega) hs a.length 0 (by omega) (by omega)
    simpa using this
  · simp only [if_neg h]
    rw [decide_eq_false (fun e => h (by rw [e]))]
    exact ev_some _
theorem Rc_ext {a b : Rc} (h0 : a.f0 = b.f0) (h1 : a.f1 = b.f1) (h2 : a.f2 = b.f2) (h3 : a.f3 = b.f3) (h4 : a.f4 = b.f4) (h5 : a.f5 = b.f5) : a = b := by
  cases a
  cases b
  simp_all
instance : DecidableEq Rc := fun a b => decidable_of_iff (a.f0 = b.f0 ∧ a.f1 = b.f1 ∧ a.f2 = b.f2 ∧ a.f3 = b.f3 ∧ a.f4 = b.f4 ∧ a.f5 = b.f5) ⟨fun h => Rc_ext h.1 h.2.1 h.2.2.1 h.2.2.2.1 h.2.2.2.2.1 h.2.2.2.2.2, fun h => by rw [h]; simp⟩
theorem sameRec (a b : Rc) (hs : smallR a) : Ev (fun k => laws_sameRecord.f k a.f0 a.f1 a.f2 a.f3 a.f4 a.f5 b.f0 b.f1 b.f2 b.f3 b.f4 b.f5) (decide (a = b)) := by
  unfold laws_sameRecord.f
  by_cases h0 : a.f0 = b.f0
  · by_cases h1 : a.f1 = b.f1
    · by_cases h2 : a.f2 = b.f2
      · by_cases h4 : a.f4 = b.f4
        · simp only [if_pos h0, if_pos h1, if_pos (show (a.f2 == b.f2) = true by simpa using h2), if_pos (show (a.f4 == b.f4) = true by simpa using h4)]
          refine Ev.bind (sameInts a.f3 b.f3 hs.1) ?_
          by_cases h3 : a.f3 = b.f3
          · simp only [if_pos (decide_eq_true h3)]
            refine Ev.bind (sameInts a.f5 b.f5 hs.2) ?_
            by_cases h5 : a.f5 = b.f5
            · rw [decide_eq_true h5, decide_eq_true (Rc_ext h0 h1 h2 h3 h4 h5)]
              exact ev_some _
            · rw [decide_eq_false h5, decide_eq_false (fun e => h5 (by rw [e]))]
              exact ev_some _
          · simp only [decide_eq_false h3, Bool.false_eq_true, if_false]
            rw [decide_eq_false (fun e => h3 (by rw [e]))]
            exact ev_some _
        · simp only [if_pos h0, if_pos h1, if_pos (show (a.f2 == b.f2) = true by simpa using h2), if_neg (show ¬ (a.f4 == b.f4) = true by simpa using h4)]
          rw [decide_eq_false (fun e => h4 (by rw [e]))]
          exact ev_some _
      · simp only [if_pos h0, if_pos h1, if_neg (show ¬ (a.f2 == b.f2) = true by simpa using h2)]
        rw [decide_eq_false (fun e => h2 (by rw [e]))]
        exact ev_some _
    · simp only [if_pos h0, if_neg h1]
      rw [decide_eq_false (fun e => h1 (by rw [e]))]
      exact ev_some _
  · simp only [if_neg h0]
    rw [decide_eq_false (fun e => h0 (by rw [e]))]
    exact ev_some _
theorem drop_rec {l : List Rc} {i : Nat} (h : i < l.length) : l.drop i = rr l i :: l.drop (i + 1) := by
  rw [List.drop_eq_getElem_cons h, rr_nat l i h]
theorem sameRecs_loop (a b : List Rc) (hl : a.length = b.length) (hs : smallRs a) : ∀ (d i : Nat), a.length - i = d → i ≤ a.length → Ev (fun k => laws_sameRecords.l0 k a b (i : Int)) (decide (a.drop i = b.drop i)) := by
  have hlen := hs.1
  intro d
  induction d with
  | zero =>
    intro i hd hi
    rw [show a.drop i = [] from List.drop_eq_nil_of_le (by omega), show b.drop i = [] from List.drop_eq_nil_of_le (by omega)]
    refine ev_succ ?_
    simp only [laws_sameRecords.l0, if_neg (show ¬ (i : Int) < (a.length : Int) by omega), decide_true]
    exact ev_some _
  | succ d ih =>
    intro i hd hi
    have hlt : (i : Int) < (a.length : Int) := by omega
    have e1 : wrap64 ((i : Int) + 1) = ((i + 1 : Nat) : Int) := by rw [wrap_id (by omega) (by omega)]; omega
    rw [drop_rec (show i < a.length by omega), drop_rec (show i < b.length by omega)]
    refine ev_succ ?_
    simp only [laws_sameRecords.l0, if_pos hlt, if_pos (show (0 : Int) ≤ i by omega), if_pos (show (i : Int) < (b.length : Int) by omega), e1]
    refine Ev.bind (sameRec (rr a i) (rr b i) (smallRs_at hs i (by omega))) ?_
    by_cases h0 : rr a i = rr b i
    · simp only [if_pos (decide_eq_true h0)]
      have := ih (i + 1) (by omega) (by omega)
      simpa [h0] using this
    · simp only [decide_eq_false h0, Bool.false_eq_true, if_false]
      rw [decide_eq_false (by simp [h0])]
      exact ev_some _
theorem sameRecs (a b : List Rc) (hs : smallRs a) : Ev (fun k => laws_sameRecords.f k a b) (decide (a = b)) := by
  unfold laws_sameRecords.f
  by_cases h : (a.length : Int) = (b.length : Int)
  · simp only [if_pos h]
    have := sameRecs_loop a b (by omega) hs a.length 0 (by omega) (by omega)
    simpa using this
  · simp only [if_neg h]
    rw [decide_eq_false (fun e => h (by rw [e]))]
    exact ev_some _
end Go.Proofs.Yticpnjhkdfdkkaa.Q
namespace Go.Proofs.Yticpnjhkdfdkkaa.Pure
open Go.RowKit Go.Proofs.Yticpnjhkdfdkkaa.T Go.Proofs.YticpnjhkdfdkkaaW.PrintWords Go.Proofs.YticpnjhkdfdkkaaW.PrintLast Go.Proofs.Yticpnjhkdfdkkaa.Q
set_option linter.unusedVariables false
set_option linter.unusedSimpArgs false
theorem end_le_tail {l : List Bt} (hv : VL l) {r : Int} (he : EndP l r) : r ≤ tailP l := by
  rcases he with ⟨i, hi, _, _, rfl⟩ | ⟨_, rfl⟩
  · have h1 := fOff_le (VL_at hv i hi)
    have h2 : lOff (rb l (i : Int)) ≤ lOff (rb l ((l.length : Int) - 1)) := by
      rw [show (l.length : Int) - 1 = ((l.length - 1 : Nat) : Int) by omega]
      by_cases he : i = l.length - 1
      · rw [← he]; omega
      · have h3 := VL_lt' hv (show i < l.length - 1 by omega) (by omega)
        have h4 := fOff_le (VL_at hv (l.length - 1) (by omega))
        have h5 := (hv.2 (i + 1) (Nat.zero_le _) (by omega)).2 (by omega)
        rw [show ((i + 1 : Nat) : Int) - 1 = (i : Int) by omega] at h5
        by_cases h6 : i + 1 = l.length - 1
        · rw [h6] at h5; omega
        · have h7 := VL_lt' hv (show i + 1 < l.length - 1 by omega) (by omega)
          omega
    unfold tailP
    rw [if_neg (by omega)]
    omega
  · exact Int.le_refl _
theorem allOf_loop (l : List Bt) (h : VL l) (hp : ∀ j, j < l.length → pr l j = 255) : ∀ (d i : Nat), l.length - i = d → i ≤ l.length → Ev (fun k => laws_allOf.l0 k l (recTo l i) (i : Int)) (recTo l l.length) := by
  have h8 := h.1
  intro d
  induction d with
  | zero =>
    intro i hd hi
    refine ev_succ ?_
    simp only [laws_allOf.l0, if_neg (show ¬ (i : Int) < (l.length : Int) by omega)]
    rw [show i = l.length by omega]
    exact ev_some _
  | succ d ih =>
    intro i hd hi
    have hlt : i < l.length := by omega
    have e1 : wrap64 ((i : Int) + 1) = ((i + 1 : Nat) : Int) := by rw [wrap_id (by omega) (by omega)]; omega
    have hv := (vB_pos (VL_at h i hlt)).2
    have hlen := recTo_len h i (by omega)
    have next := ih (i + 1) (by omega) (by omega)
    refine ev_succ ?_
    simp only [laws_allOf.l0, if_pos (show (i : Int) < (l.length : Int) by omega), if_pos (show (0 : Int) ≤ (i : Int) by omega), e1, if_pos (show (recTo l i).length + (rd_T27 l (i : Int)).f5.length < 1759218604441 from (show (recTo l i).length + (rb l (i : Int)).f5.length < 1759218604441 by omega))]
    rw [recTo_succ, show rAt l i = (rb l (i : Int)).f5 from if_pos (by unfold wAt; rw [if_pos (hp i hlt)])] at next
    exact next
theorem all_loop (l : List Bt) (hs : smallBs l) (hv : VL l) (r : Int) (he : EndP l r) : ∀ (d i : Nat), l.length - i = d → i ≤ l.length → (∀ j, j < i → pr l j = 255) → Ev (fun k => laws_FnStableAll.l0 k l r (i : Int)) true := by
  have h8 := hv.1
  intro d
  induction d with
  | zero =>
    intro i hd hi hp
    have hp' : ∀ j, j < l.length → pr l j = 255 := fun j hj => hp j (by omega)
    have hno : ∀ j, j < l.length → opens l l.length j = false := fun j hj => by
      rw [← Bool.not_eq_true, opens_iff]
      exact fun h => h.1 (hp' j hj)
    obtain rfl := EndP_unique he (.inr ⟨hno, rfl⟩)
    refine ev_succ ?_
    simp only [laws_FnStableAll.l0, if_neg (show ¬ (i : Int) < (l.length : Int) by omega)]
    refine Ev.bind (implEnd l hs hv) ?_
    simp only [if_true]
    obtain ⟨x, hx, hxp⟩ := implStab l hs hv
    obtain rfl := StR_unique hxp ⟨l.length, Nat.le_refl _, hno, fun h => by omega, rfl⟩
    refine Ev.bind hx ?_
    have ha : Ev (fun k => laws_allOf.f k l) (recTo l l.length) := by
      unfold laws_allOf.f
      exact allOf_loop l hv hp' l.length 0 (by omega) (by omega)
    refine Ev.bind ha ?_
    have hsame := sameRecs (recTo l l.length) (recTo l l.length) (StR_small hv hxp)
    rw [decide_eq_true rfl] at hsame
    refine Ev.bind hsame ?_
    exact ev_some _
  | succ d ih =>
    intro i hd hi hp
    have hlt : i < l.length := by omega
    have e1 : wrap64 ((i : Int) + 1) = ((i + 1 : Nat) : Int) := by rw [wrap_id (by omega) (by omega)]; omega
    refine ev_succ ?_
    simp only [laws_FnStableAll.l0, if_pos (show (i : Int) < (l.length : Int) by omega), if_pos (show (0 : Int) ≤ (i : Int) by omega), e1]
    by_cases h : pr l i = 255
    · simp only [if_pos (show (rd_T27 l (i : Int)).f2 = 255 from h)]
      refine ih (i + 1) (by omega) (by omega) (fun j hj => ?_)
      by_cases hji : j = i
      · rw [hji]; exact h
      · exact hp j (by omega)
    · simp only [if_neg (show ¬ (rd_T27 l (i : Int)).f2 = 255 from h)]
      refine Ev.bind (implEnd l hs hv) ?_
      rw [decide_eq_true (end_le_tail hv he)]
      exact ev_some _
theorem FnStableAll : laws_FnStableAll.Pure := by
  intro l0 _ _ hb0
  refine Ev.rounds ?_
  have hb := bytes_of hb0
  unfold laws_FnStableAll.f
  by_cases h : (l0.length : Int) > 1048576
  · simp only [if_pos h]
    exact ev_some _
  · simp only [if_neg h]
    obtain ⟨l, hd, hdr⟩ := drawStable hb
    have hs := drawnBs_small hdr
    refine Ev.bind hd ?_
    obtain ⟨r, h1, p1⟩ := implStable l hs
    obtain ⟨r', h2, p2⟩ := specStable l hs
    obtain rfl := StP_unique p1 p2
    refine Ev.bind h1 ?_
    refine Ev.bind h2 ?_
    simp only [if_true]
    refine ev_succ ?_
    rcases p1 with ⟨hv, he⟩ | ⟨hv, rfl⟩
    · have hp := EndP_pos hv he
      simp only [laws_FnStableAll.j0, decide_eq_false (show ¬ r < 0 by omega), Bool.false_eq_true, if_false]
      exact all_loop l hs hv r he l.length 0 (by omega) (by omega) (fun j hj => by omega)
    · simp only [laws_FnStableAll.j0, decide_eq_true (show (-1 : Int) < 0 by omega), if_true, beq_self_eq_true]
      exact ev_some _
end Go.Proofs.Yticpnjhkdfdkkaa.Pure
namespace Go.Proofs.Yticpnjhkdfdkkaa.fnStableAll
open Go.ChangeShapes Go.WideShapes Go.ChangeAt Go.RowKit
open Go.ChangeMaps (open_string shut_string)
set_option linter.unusedVariables false
theorem own : ownKnob Try.prog.godebug = none := by kernel_rfl
theorem laidOut : laidOutB Try.prog = true := by kernel_rfl
def IsRow (k : IntKind) (w : World) (a : Option Addr) (len cap : Nat) (zs : List Int) : Prop :=
  (a = none ∧ len = 0 ∧ cap = 0 ∧ zs = []) ∨
  ∃ x, a = some x ∧ len ≤ cap ∧ cap ≤ maxLen ∧ zs.length = cap ∧ (∀ i, i < zs.length → w.cell? (x.add i) = some (.int k (zs.getD i 0))) ∧ ∀ n ∈ zs, (Lit.int k n).wf = true
set_option maxRecDepth 100000 in
theorem lifted (os : Os) (started : os.Started) (H : Type) (enc : TypeId × Value → H) :
    ReturnsInHanded {} Try.checked os 12 .any (Rows.fnStableAllSpec.pre6 enc Try.prog Try.f12 Rows.fnStableAllRow.domain false) (Rows.fnStableAllSpec.post enc Try.prog Try.f12 false true false false) := by
  refine returnsInHanded_of_change_sized (C := Try.checked) own started (by kernel_rfl) Try.func12
    (ChangeSpec.witness6 (enc := enc) (C := Try.checked) false ⟨#[], #[.slice none 0 0], []⟩ 8 (by kernel_rfl) (by kernel_rfl) (by kernel_rfl) (by kernel_rfl)) ?_
  intro W base args ds gs before hval0 hW hcnd hsz0 _
  have hsz : (DataW.weightsEach Try.prog (Try.f12.params.toList ++ Rows.fnStableAllSpec.plain.varTypes Try.prog) (ds ++ gs)).all (· ≤ reachBytes) = true := hsz0
  have hval : ∀ (j : Nat) t v, Try.f12.params[j]? = some t → args[j]? = some v → Value.okWide Try.prog W .any base t v := hval0
  have hW' := hW
  obtain ⟨p, q, hA0, hV, rfl, hfz, hnd⟩ := hW
  have hA : DataW.TrodAll enc Try.prog W 0 (fun _ => true) true Try.f12.params.toList args.toList ds p := hA0
  rw [Try.params12] at hA hval hsz
  obtain ⟨v0, vs0, d0, ds0, p0, q0, hargs, rfl, rfl, h0, r0⟩ := trodAll_cons hA
  obtain ⟨rfl, rfl, rfl⟩ := trodAll_nil r0
  obtain rfl : args = #[v0] := by cases args; simp_all
  obtain ⟨rfl, rfl⟩ := trodVars_none hV
  obtain ⟨a0, len0, cap0, rfl⟩ := okWide_slice Try.underlying22 (hval 0 22 v0 rfl rfl)
  have k0 := h0
  have lt0 : ∀ x ∈ p0, x.block < W.heap.size := by obtain ⟨m, hm⟩ := k0; exact DataW.trod_lt m _ _ _ hm
  obtain ⟨z0, w0⟩ : ∃ zs, IsRow .u8 W a0 len0 cap0 zs := by
    obtain ⟨fuel, hf⟩ := h0
    rcases open_ints Try.underlying22 Try.underlying5 (by kernel_rfl) hf with ⟨hcs, _⟩ | ⟨x, l, c, zs, hcs, _, hl, hm, hz, _, hcell, hwz⟩
    · simp [Value.cells] at hcs
      obtain ⟨rfl, rfl, rfl⟩ := hcs
      exact ⟨[], .inl ⟨rfl, rfl, rfl, rfl⟩⟩
    · simp [Value.cells] at hcs
      obtain ⟨rfl, rfl, rfl⟩ := hcs
      exact ⟨zs, .inr ⟨_, rfl, hl, hm, by simpa using hz, hcell, hwz⟩⟩
  have y0 : len0 * 1 ≤ 140737488351232 := Go.Proofs.YticpnjhkdfdkkaaW.PrintWords.sized_ints hsz (j := 0) (t := 22) rfl rfl Try.underlying22 Try.underlying5 (by kernel_rfl) (by kernel_rfl) h0
  clear hA0 hval0 hsz0 hsz
  refine (T.laws_FnStableAll.walk Pure.FnStableAll a0 len0 cap0 z0 W w0 y0).mono fun e W' ⟨he, bel⟩ => ?_
  subst he
  exact ⟨_, rfl, _, _, _, [], _, [], hW', trodAll_mk1 (shut_bool Try.underlying4 _), (trodAll_cons_mk (Below.trod laidOut (by kernel_rfl) (of_decide_eq_true (by kernel_rfl)) k0 bel lt0) trodAll_mk0), rfl, bel.frame _, fun h => by cases h⟩
theorem closed : joinedFacts Try.prog 12 Try.f12 Rows.fnStableAllSpec Rows.fnStableAllRow = true :=
  Head.closed_of _ _ _ _ _ (by kernel_rfl) (by kernel_rfl) (by kernel_rfl) (by kernel_rfl) (by kernel_rfl) (by kernel_rfl) (by kernel_rfl) (by kernel_rfl) (by kernel_rfl) (by kernel_rfl) (by kernel_rfl) (by kernel_rfl) (by kernel_rfl) (by kernel_rfl) (by kernel_rfl) (by kernel_rfl) (by kernel_rfl) (by kernel_rfl) (by kernel_rfl) (by kernel_rfl) (by kernel_rfl) (by kernel_rfl) (by kernel_rfl) (by kernel_rfl) (by kernel_rfl) Head.may_enter (by rw [Head.lifts_final]; kernel_rfl) (by rw [Head.make_is]; kernel_rfl) (by kernel_rfl) (by kernel_rfl) (by kernel_rfl) (by kernel_rfl)
theorem over : Rows.fnStableAllRow.holds Try.pinned (OpenSpec.ofChange Rows.fnStableAllSpec) :=
  OpenClaim.holds_of_wide 12 Try.f12 rfl rfl rfl rfl rfl rfl rfl ⟨rfl, rfl, rfl, rfl, rfl⟩ rfl rfl rfl rfl rfl (by kernel_rfl) Try.func12 closed
    (of_decide_eq_true (by kernel_rfl)) (by unfold Func.isWrapper; first | (rw [if_pos (by decide +kernel)]; kernel_rfl) | (rw [if_neg (by decide +kernel)]; exact ⟨rfl, rfl⟩))
    (fun os started H enc _ => lifted os started H enc)
theorem proved : Rows.FnStableAllSaid := over
end Go.Proofs.Yticpnjhkdfdkkaa.fnStableAll
namespace Go.Proofs.Yticpnjhkdfdkkaa
theorem fnStableAll_holds : Rows.FnStableAllSaid := fnStableAll.proved
end Go.Proofs.Yticpnjhkdfdkkaa
