/- FnUndoneOrder, part 6 of 6: merged by wip/tools/pack2.py out of the texts that the row reaches; the pure statement is the session's own. -/
import Derived.Test.YticpnjhkdfdkkaaRows
import Derived.WalkKit
import Derived.ProofKit
import Derived.OpenShut
import Derived.ShutString
import Derived.ChangeOld
import Derived.Below
import Derived.SizedLaws
import Derived.Test.YticpnjhkdfdkkaaFnUndoneOrderK4
namespace Go.Proofs.Yticpnjhkdfdkkaa.T
open Go.RowKit Go.Proofs.YticpnjhkdfdkkaaW.PrintWords Go.Proofs.YticpnjhkdfdkkaaW.PrintLast Go.Proofs.YticpnjhkdfdkkaaW.PrintMore
attribute [local go_sem] max2_int max_two
set_option linter.unusedVariables false
set_option linter.unusedSimpArgs false
def spec_l22Fine.f (a0_0 : Bool) (a0_1 : Bool) (a0_2 : Int) (a0_3 : Int) (a0_4 : Int) (l0_5 : List (S34)) : Option (Bool) := if 0 < (l0_5.length : Int) then (if (((rd_T34 l0_5 0).f5).length : Int) = 1 then (if 0 < (((rd_T34 l0_5 0).f5).length : Int) then (some ((rd ((rd_T34 l0_5 0).f5) 0) == 1)) else (none)) else (some false)) else (none)
set_option maxHeartbeats 8000000 in
set_option maxRecDepth 100000 in
theorem spec_l22Fine.calls (a0_0 : Bool) (a0_1 : Bool) (a0_2 : Int) (a0_3 : Int) (a0_4 : Int) (A0_5 : Option Addr) (c0_5 : Nat) (l0_5 : List (S34)) (r : Bool) (w : World) (hr0_5 : Kd.C k34 w A0_5 l0_5.length l0_5) (hc0_5 : l0_5.length ≤ c0_5) (h : spec_l22Fine.f a0_0 a0_1 a0_2 a0_3 a0_4 l0_5 = some r) :
  Calls Try.prog 69 #[.agg #[.bool a0_0, .bool a0_1, .int .i64 a0_2, .int .i64 a0_3, .int .i64 a0_4, .slice A0_5 l0_5.length c0_5]] w fun e w' => e = .returned (.bool r) ∧ Below w.heap.size w w' := by
 have hu27 := Try.underlying27; have HR0_5 := zzm hr0_5; have HC0_5 := zzm hc0_5; clear hr0_5 hc0_5; have HB := zzm (Below.refl w.heap.size w); have H : (if 0 < (l0_5.length : Int) then (if (((rd_T34 l0_5 0).f5).length : Int) = 1 then (if 0 < (((rd_T34 l0_5 0).f5).length : Int) then (some ((rd ((rd_T34 l0_5 0).f5) 0) == 1)) else (none)) else (some false)) else (none)) = some r := h; clear h; by_cases c2 : 0 < (l0_5.length : Int)
 ·
  rw [if_pos c2] at H; have c2b0 : decide (0 < (l0_5.length : Int)) = true := decide_eq_true c2; have c2b1 : decide (0 < l0_5.length) = true := decide_eq_true (by omega); clear c2; by_cases c3 : (((rd_T34 l0_5 0).f5).length : Int) = 1
  ·
   rw [if_pos c3] at H; have c3b0 : ((((rd_T34 l0_5 0).f5).length : Int) == 1) = true := beq_iff_eq.mpr c3; have c3b1 : ((((rd_T34 l0_5 0).f5).length : Int) != 1) = false := bne_eq_false_iff_eq.mpr c3; clear c3; by_cases c4 : 0 < (((rd_T34 l0_5 0).f5).length : Int)
   ·
    rw [if_pos c4] at H; have c4b0 : decide (0 < (((rd_T34 l0_5 0).f5).length : Int)) = true := decide_eq_true c4; have c4b1 : decide (0 < ((rd_T34 l0_5 0).f5).length) = true := decide_eq_true (by omega); clear c4; obtain rfl := Option.some.inj H; go_enter Try.func69, Try.ntmps69; go_wp2_with (first | ((with_reducible refine gate_dst (N := 1) rfl ?_); refine box_event ?hg (N := 1) ?hd (cs := #[.bool a0_0, .bool a0_1, .int .i64 a0_2, .int .i64 a0_3, .int .i64 a0_4, .slice A0_5 l0_5.length c0_5]) (t := 27) ?hr ?_; (case hd => rfl); (case hg => rfl); (case hr => first | (go_simp; done) | (go_simp; rfl)); intro gb363 hg w5 hbox hb; have n0_ := zzm (zzp zzh1 hb); have n1_ := zzm (hbox); have n2_ := zzm ((by rw [hg]; exact (zzo zzh1) : w.heap.size ≤ gb363)); have n3_ := zzm ((by rw [hg]; exact (zzo zzh1) : w.heap.size ≤ gb363)); clear HB; have HB := n0_; have BK363 := n1_; have GW363 := n2_; have GE363 := n3_; clear n0_ n1_ n2_ n3_ hb hbox hg; obtain ⟨hcz6_0, hcz6_1, hcz6_2, hcz6_3, hcz6_4, hcz6_5, hfz6_0, hfz6_1, hfz6_2, hfz6_3, hfz6_4, hfz6_5⟩ := zzc6 BK363.out; have p364 : 0 ≤ (0 : Int) := (by omega); have q364 : 0 < (l0_5.length : Int) := zzt; obtain ⟨ad364, A364_3, c364_3, A364_5, c364_5, e364, hx364_0, hx364_1, hx364_2, hx364_3, hx364_4, hx364_5, hl364_3, hi364_3, hl364_5, hi364_5⟩ := at_T34 HR0_5.out 0 p364 q364; cases e364; have qi364 : (0 < l0_5.length) = True := eq_true (by omega); (try rw [show ((0 : Int)).toNat = 0 from rfl] at hx364_0); (try rw [show 0 * 6 = 0 from rfl] at hx364_0); (try rw [Addr.add_zero'] at hx364_0); (try rw [show ((0 : Int)).toNat = 0 from rfl] at hx364_1); (try rw [show 0 * 6 = 0 from rfl] at hx364_1); (try rw [Addr.add_zero'] at hx364_1); (try rw [show ((0 : Int)).toNat = 0 from rfl] at hx364_2); (try rw [show 0 * 6 = 0 from rfl] at hx364_2); (try rw [Addr.add_zero'] at hx364_2); (try rw [show ((0 : Int)).toNat = 0 from rfl] at hx364_3); (try rw [show 0 * 6 = 0 from rfl] at hx364_3); (try rw [Addr.add_zero'] at hx364_3); (try rw [show ((0 : Int)).toNat = 0 from rfl] at hx364_4); (try rw [show 0 * 6 = 0 from rfl] at hx364_4); (try rw [Addr.add_zero'] at hx364_4); (try rw [show ((0 : Int)).toNat = 0 from rfl] at hx364_5); (try rw [show 0 * 6 = 0 from rfl] at hx364_5); (try rw [Addr.add_zero'] at hx364_5); replace hx364_0 := zzx HB.out hx364_0; replace hx364_1 := zzx HB.out hx364_1; replace hx364_2 := zzx HB.out hx364_2; replace hx364_3 := zzx HB.out hx364_3; replace hx364_4 := zzx HB.out hx364_4; replace hx364_5 := zzx HB.out hx364_5; have HR364_3 := zzm hi364_3; have HC364_3 := zzm hl364_3; clear hi364_3 hl364_3; have HR364_5 := zzm hi364_5; have HC364_5 := zzm hl364_5; clear hi364_5 hl364_5; replace p364 := eq_true p364; replace q364 := eq_true q364; have p365 : 0 ≤ (0 : Int) := (by omega); have q365 : 0 < (l0_5.length : Int) := zzt; obtain ⟨ad365, A365_3, c365_3, A365_5, c365_5, e365, hx365_0, hx365_1, hx365_2, hx365_3, hx365_4, hx365_5, hl365_3, hi365_3, hl365_5, hi365_5⟩ := at_T34 HR0_5.out 0 p365 q365; obtain rfl : ad364 = ad365 := (by injection e365); have qi365 : (0 < l0_5.length) = True := eq_true (by omega); (try rw [show ((0 : Int)).toNat = 0 from rfl] at hx365_0); (try rw [show 0 * 6 = 0 from rfl] at hx365_0); (try rw [Addr.add_zero'] at hx365_0); (try rw [show ((0 : Int)).toNat = 0 from rfl] at hx365_1); (try rw [show 0 * 6 = 0 from rfl] at hx365_1); (try rw [Addr.add_zero'] at hx365_1); (try rw [show ((0 : Int)).toNat = 0 from rfl] at hx365_2); (try rw [show 0 * 6 = 0 from rfl] at hx365_2); (try rw [Addr.add_zero'] at hx365_2); (try rw [show ((0 : Int)).toNat = 0 from rfl] at hx365_3); (try rw [show 0 * 6 = 0 from rfl] at hx365_3); (try rw [Addr.add_zero'] at hx365_3); (try rw [show ((0 : Int)).toNat = 0 from rfl] at hx365_4); (try rw [show 0 * 6 = 0 from rfl] at hx365_4); (try rw [Addr.add_zero'] at hx365_4); (try rw [show ((0 : Int)).toNat = 0 from rfl] at hx365_5); (try rw [show 0 * 6 = 0 from rfl] at hx365_5); (try rw [Addr.add_zero'] at hx365_5); replace hx365_0 := zzx HB.out hx365_0; replace hx365_1 := zzx HB.out hx365_1; replace hx365_2 := zzx HB.out hx365_2; replace hx365_3 := zzx HB.out hx365_3; replace hx365_4 := zzx HB.out hx365_4; replace hx365_5 := zzx HB.out hx365_5; have HR365_3 := zzm hi365_3; have HC365_3 := zzm hl365_3; clear hi365_3 hl365_3; have HR365_5 := zzm hi365_5; have HC365_5 := zzm hl365_5; clear hi365_5 hl365_5; replace p365 := eq_true p365; replace q365 := eq_true q365; have ea_ := Option.some.inj (hx364_3.symm.trans hx365_3); injection ea_ with ea_ en_ ec_; subst ea_; subst ec_; clear en_; have ea_ := Option.some.inj (hx364_5.symm.trans hx365_5); injection ea_ with ea_ en_ ec_; subst ea_; subst ec_; clear en_; have p366 : 0 ≤ (0 : Int) := (by omega); have q366 : 0 < (((rd_T34 l0_5 0).f5).length : Int) := zzt; obtain ⟨ad366, e366, hx366_0⟩ := Kd.at_int HR365_5.out 0 p366 q366; cases e366; have qi366 : (0 < ((rd_T34 l0_5 0).f5).length) = True := eq_true (by omega); (try rw [show ((0 : Int)).toNat = 0 from rfl] at hx366_0); (try rw [Addr.add_zero'] at hx366_0); replace hx366_0 := zzx HB.out hx366_0; replace p366 := eq_true p366; replace q366 := eq_true q366)); go_ret; exact ⟨by first | rfl | (simp [errW_none, errW_some] <;> rfl) | (simp [*, errW_none, errW_some] <;> rfl), by repeat (first | (with_reducible first | exact HB.out | apply zza | apply zzb | apply zzc | refine zzd ?_ GE363.out) | exact HB.out)⟩
   ·
    rw [if_neg c4] at H; exact absurd H (by simp)
  ·
   rw [if_neg c3] at H; have c3b0 : ((((rd_T34 l0_5 0).f5).length : Int) == 1) = false := beq_eq_false_iff_ne.mpr c3; have c3b1 : ((((rd_T34 l0_5 0).f5).length : Int) != 1) = true := bne_iff_ne.mpr c3; obtain rfl := Option.some.inj H; go_enter Try.func69, Try.ntmps69; go_wp2_with (first | ((with_reducible refine gate_dst (N := 1) rfl ?_); refine box_event ?hg (N := 1) ?hd (cs := #[.bool a0_0, .bool a0_1, .int .i64 a0_2, .int .i64 a0_3, .int .i64 a0_4, .slice A0_5 l0_5.length c0_5]) (t := 27) ?hr ?_; (case hd => rfl); (case hg => rfl); (case hr => first | (go_simp; done) | (go_simp; rfl)); intro gb363 hg w7 hbox hb; have n0_ := zzm (zzp zzh1 hb); have n1_ := zzm (hbox); have n2_ := zzm ((by rw [hg]; exact (zzo zzh1) : w.heap.size ≤ gb363)); have n3_ := zzm ((by rw [hg]; exact (zzo zzh1) : w.heap.size ≤ gb363)); clear HB; have HB := n0_; have BK363 := n1_; have GW363 := n2_; have GE363 := n3_; clear n0_ n1_ n2_ n3_ hb hbox hg; obtain ⟨hcz8_0, hcz8_1, hcz8_2, hcz8_3, hcz8_4, hcz8_5, hfz8_0, hfz8_1, hfz8_2, hfz8_3, hfz8_4, hfz8_5⟩ := zzc6 BK363.out; have p364 : 0 ≤ (0 : Int) := (by omega); have q364 : 0 < (l0_5.length : Int) := zzt; obtain ⟨ad364, A364_3, c364_3, A364_5, c364_5, e364, hx364_0, hx364_1, hx364_2, hx364_3, hx364_4, hx364_5, hl364_3, hi364_3, hl364_5, hi364_5⟩ := at_T34 HR0_5.out 0 p364 q364; cases e364; have qi364 : (0 < l0_5.length) = True := eq_true (by omega); (try rw [show ((0 : Int)).toNat = 0 from rfl] at hx364_0); (try rw [show 0 * 6 = 0 from rfl] at hx364_0); (try rw [Addr.add_zero'] at hx364_0); (try rw [show ((0 : Int)).toNat = 0 from rfl] at hx364_1); (try rw [show 0 * 6 = 0 from rfl] at hx364_1); (try rw [Addr.add_zero'] at hx364_1); (try rw [show ((0 : Int)).toNat = 0 from rfl] at hx364_2); (try rw [show 0 * 6 = 0 from rfl] at hx364_2); (try rw [Addr.add_zero'] at hx364_2); (try rw [show ((0 : Int)).toNat = 0 from rfl] at hx364_3); (try rw [show 0 * 6 = 0 from rfl] at hx364_3); (try rw [Addr.add_zero'] at hx364_3); (try rw [show ((0 : Int)).toNat = 0 from rfl] at hx364_4); (try rw [show 0 * 6 = 0 from rfl] at hx364_4); (try rw [Addr.add_zero'] at hx364_4); (try rw [show ((0 : Int)).toNat = 0 from rfl] at hx364_5); (try rw [show 0 * 6 = 0 from rfl] at hx364_5); (try rw [Addr.add_zero'] at hx364_5); replace hx364_0 := zzx HB.out hx364_0; replace hx364_1 := zzx HB.out hx364_1; replace hx364_2 := zzx HB.out hx364_2; replace hx364_3 := zzx HB.out hx364_3; replace hx364_4 := zzx HB.out hx364_4; replace hx364_5 := zzx HB.out hx364_5; have HR364_3 := zzm hi364_3; have HC364_3 := zzm hl364_3; clear hi364_3 hl364_3; have HR364_5 := zzm hi364_5; have HC364_5 := zzm hl364_5; clear hi364_5 hl364_5; replace p364 := eq_true p364; replace q364 := eq_true q364)); go_ret; exact ⟨by first | rfl | (simp [errW_none, errW_some] <;> rfl) | (simp [*, errW_none, errW_some] <;> rfl), by repeat (first | (with_reducible first | exact HB.out | apply zza | apply zzb | apply zzc | refine zzd ?_ GE363.out) | exact HB.out)⟩
 ·
  rw [if_neg c2] at H; exact absurd H (by simp)
end Go.Proofs.Yticpnjhkdfdkkaa.T
namespace Go.Proofs.Yticpnjhkdfdkkaa.T
open Go.RowKit Go.Proofs.YticpnjhkdfdkkaaW.PrintWords Go.Proofs.YticpnjhkdfdkkaaW.PrintLast Go.Proofs.YticpnjhkdfdkkaaW.PrintMore
attribute [local go_sem] max2_int max_two
set_option linter.unusedVariables false
set_option linter.unusedSimpArgs false
mutual
def spec_UndoneOf.l0 : Nat → List (S27) → List (S46) → Int → Option ((List (S46)))
 | 0, _, _, _ => none
 | k + 1, x0, x3, x4 => if x4 < (x0.length : Int) then ((spec_LogValid.f k x0).bind fun t370 => (spec_UndoneOf.j1 k x0 x3 x4 t370)) else (spec_UndoneOf.j1 k x0 x3 x4 false)
def spec_UndoneOf.j1 : Nat → List (S27) → List (S46) → Int → Bool → Option ((List (S46)))
 | 0, _, _, _, _ => none
 | k + 1, x0, x3, x4, x14 => if x14 = true then (if 0 ≤ x4 then (if x4 < (x0.length : Int) then ((spec_l22Ours.f ((rd_T27 x0 x4).f0) ((rd_T27 x0 x4).f1) ((rd_T27 x0 x4).f2) ((rd_T27 x0 x4).f3) ((rd_T27 x0 x4).f4) ((rd_T27 x0 x4).f5)).bind fun t372 => (if t372 = true then ((spec_l22First.f k x0 x4).bind fun t373 => (spec_UndoneOf.j2 k x0 x3 x4 (!t373))) else (spec_UndoneOf.j2 k x0 x3 x4 true))) else (none)) else (none)) else (some x3)
def spec_UndoneOf.j2 : Nat → List (S27) → List (S46) → Int → Bool → Option ((List (S46)))
 | 0, _, _, _, _ => none
 | k + 1, x0, x3, x4, x28 => if x28 = true then (spec_UndoneOf.l0 k x0 x3 (wrap64 (x4 + 1))) else ((spec_l22Mark.f k x0 x4).bind fun t374 => (if t374 ≥ 0 then (if 0 ≤ t374 then (if t374 < (x0.length : Int) then ((spec_l22Fine.f ((rd_T27 x0 t374).f0) ((rd_T27 x0 t374).f1) ((rd_T27 x0 t374).f2) ((rd_T27 x0 t374).f3) ((rd_T27 x0 t374).f4) ((rd_T27 x0 t374).f5)).bind fun t376 => (if t376 = true then (spec_UndoneOf.l0 k x0 x3 (wrap64 (x4 + 1))) else (if 0 ≤ x4 then (if x4 < (x0.length : Int) then (if 0 < (((rd_T27 x0 x4).f5).length : Int) then (if 0 < (((rd_T27 x0 t374).f5).length : Int) then (if x3.length < 5864062014805 then (spec_UndoneOf.l0 k x0 (x3 ++ [(⟨(rd_T27 x0 x4).f2, (rd_T34 ((rd_T27 x0 x4).f5) 0).f0, (rd_T34 ((rd_T27 x0 t374).f5) 0).f0⟩ : S46)]) (wrap64 (x4 + 1))) else (none)) else (none)) else (none)) else (none)) else (none)))) else (none)) else (none)) else (spec_UndoneOf.l0 k x0 x3 (wrap64 (x4 + 1)))))
end
def spec_UndoneOf.f (k : Nat) (l0 : List (S27)) : Option ((List (S46))) := spec_UndoneOf.l0 k l0 (([] : List (S46))) 0
def spec_UndoneOf.T8 : Bool × List (List Nat × List Nat) := (true, [([], []), ([], []), ([], []), ([1, 2], [1, 2]), ([3], [3]), ([4], [4]), ([], []), ([], []), ([6, 7], [6, 7]), ([8], [8]), ([9], [9]), ([10], [10]), ([11], [11]), ([12], [12]), ([], []), ([], []), ([14, 15], [14, 15]), ([16], [16]), ([17], [17]), ([18], [18]), ([19], [19]), ([20], [20]), ([5, 13, 21], [5, 13, 21]), ([22], [22]), ([0, 23], [0, 23]), ([24, 24, 0, 1, 2, 3, 4, 5, 6, 7, 8, 9, 10, 11, 12, 13, 14, 15, 16, 17, 18, 19, 20, 21, 22, 23, 24], [0, 24])])
def spec_UndoneOf.B8 : List Nat := [0, 0, 0, 6, 14, 30, 0, 0, 192, 448, 960, 1984, 4032, 8128, 0, 0, 49152, 114688, 245760, 507904, 1032192, 2080768, 4194302, 8388606, 16777215, 33554431]
theorem spec_UndoneOf.tab8 : rtab .any (opsOf Try.f33 8) = spec_UndoneOf.T8 := by kernel_rfl
theorem spec_UndoneOf.bits8 : waitsOk spec_UndoneOf.T8.2 spec_UndoneOf.B8 = true := by kernel_rfl
set_option maxHeartbeats 8000000 in
set_option maxRecDepth 100000 in
theorem spec_UndoneOf.calls (k : Nat) (A0 : Option Addr) (c0 : Nat) (l0 : List (S27)) (r : List (S46)) (w : World) (hr0 : Kd.C k27 w A0 l0.length l0) (hc0 : l0.length ≤ c0) (h : spec_UndoneOf.f k l0 = some r) :
  Calls Try.prog 33 #[.slice A0 l0.length c0] w fun e w' => ∃ v0_ : Value, e = .returned (v0_) ∧ Kd.R k46 46 w' w.heap.size (fun _ => True) v0_ r ∧ Below w.heap.size w w' := by
 have hu27 := Try.underlying27; have hu46 := Try.underlying46; have HR0 := zzm hr0; have HC0 := zzm hc0; clear hr0 hc0; have HB := zzm (Below.refl w.heap.size w); have H : (spec_UndoneOf.l0 k l0 (([] : List (S46))) 0) = some r := h; clear h; obtain ⟨y367, hy367⟩ : ∃ y_ : List (S46), y_ = (([] : List (S46))) := ⟨_, rfl⟩; replace H : (spec_UndoneOf.l0 k l0 y367 0) = some r := by first | (rw [hy367]; with_reducible exact H) | (have H2_ := (Option.bind_some _ _).symm.trans H; rw [hy367]; with_reducible exact H2_) | (have H2_ := (Option.bind_some _ _).symm.trans H; with_reducible exact H2_) | with_reducible exact H | (rw [hy367]; exact H) | exact H
 have Ny367 := zzm hy367; clear hy367; have H' := zzm H; clear H; go_enter Try.func33, Try.ntmps33; go_wp2_with (first | ((with_reducible refine gate_dst (N := 6) rfl ?_); refine Kd.R_lit k46 _ 46 ?hg (N := 6) ?hd (xs := ([] : List (S46))) (inner := []) (ok := fun _ => True) (okp := fun _ => True) ?hr ?hp (fun _ hk => hk) trivial (Below.refl _ _) (Nat.le_refl _) (by simp) ?_; (case hd => rfl); (case hg => rfl); (case hr => first | (go_simp; done) | (go_simp; rfl)); (case hp => exact (Reps.none _ _)); intro v368 w2 ho3 hb hg_ hnew_; clear hg_ hnew_; (first | rw [← Ny367.out] at ho3 | (simp only [Int.reduceToNat] at ho3; rw [← Ny367.out] at ho3)); have n0_ := zzm (Kd.R_lower ho3 (zzo zzh1)); have n1_ := zzm (zzp zzh1 hb); clear HB; have HO369 := n0_; have HB := n1_; clear n0_ n1_ hb ho3)); go_loopg [3, 4] k (fun kq v3 v4 w' => ∃ (x3_1 : List (S46)) (x4_1 : Int), v4 = .int .i64 x4_1 ∧ Aside0 (spec_UndoneOf.l0 kq l0 x3_1 x4_1 = some r) ∧ Aside0 (kq ≤ k) ∧ Aside0 (Kd.R k46 46 w' w.heap.size (fun _ => True) v3 x3_1) ∧ Aside0 (Below w.heap.size w w'))
 case atStart => exact ⟨(y367), (0), (by first | rfl | (simp; done) | (simp [*]; done)), H', ⟨Nat.le_refl _⟩, ⟨by (with_reducible repeat (first | apply Kd.R_alloc | apply Kd.R_drewN | apply Kd.R_drew)); exact HO369.out⟩, ⟨zzh1⟩⟩
 case round =>
  clear H'; try clear p2
  try clear c3
  obtain ⟨x3_1, x4_1, rfl, HA, HK1, HO_3, HB⟩ := hrel; cases gk with
  | zero => exact absurd HA.out (by simp [spec_UndoneOf.l0])
  | succ k1 =>
   have H := HA.out; clear HA; simp only [spec_UndoneOf.l0] at H; have HC4 := zzm H; clear H; go_upto_region 3 with (fail); go_cut [14] (fun v14 wc => ∃ (kq : Nat) (x14_3 : Bool), v14 = .bool x14_3 ∧ Aside0 (spec_UndoneOf.j1 kq l0 x3_1 x4_1 x14_3 = some r) ∧ Aside0 (kq ≤ k1) ∧ Aside0 (Kd.R k46 46 wc w.heap.size (fun _ => True) u3 x3_1) ∧ Aside0 (Below w.heap.size w wc))
   case first =>
    have H := HC4.out; clear HC4; by_cases c5 : x4_1 < (l0.length : Int)
    ·
     rw [if_pos c5] at H; have c5b0 : decide (x4_1 < (l0.length : Int)) = true := decide_eq_true c5; clear c5; (first | rw [c5b0] | (simp only [i64_w, i32_w]; rw [c5b0]) | skip); replace H := Option.bind_eq_some_iff.mp H; obtain ⟨t370, A60, H⟩ := H; replace H : (spec_UndoneOf.j1 k1 l0 x3_1 x4_1 t370) = some r := H; have A6 := zzm A60; clear A60; have H' := zzm H; clear H; go_wp2_with (first | (go_at_call 44; (with_reducible refine (spec_LogValid.calls k1 _ _ l0 t370 _ ?side1 ?side2 A6.out).mono ?_); (case side1 => repeat (first | exact (Kd.C_below HR0.out HB.out) | (with_reducible refine Kd.C_alloc ?_ _) | (with_reducible refine Kd.C_drewN ?_ _) | (with_reducible refine Kd.C_drew ?_))); (case side2 => exact HC0.out); rintro e w7 ⟨rfl, hb⟩; have n0_ := zzm (Kd.R_below (by (with_reducible repeat (first | apply Kd.R_alloc | apply Kd.R_drewN | apply Kd.R_drew)); exact HO_3.out) hb); have n1_ := zzm (zzp zzh1 hb); clear HO_3 HB; have HO_3 := n0_; have HB := n1_; clear n0_ n1_; (try clear hb); (try clear hb2); (try clear hk); (try clear hi))); go_meet
     case rel => exact ⟨_, (t370), (by first | rfl | (simp; done) | (simp [*]; done)), H', ⟨by have := HK1.out; first | omega | exact Nat.le_refl _⟩, ⟨by (with_reducible repeat (first | apply Kd.R_alloc | apply Kd.R_drewN | apply Kd.R_drew)); exact HO_3.out⟩, ⟨zzh1⟩⟩
    ·
     rw [if_neg c5] at H; have c5b0 : decide (x4_1 < (l0.length : Int)) = false := decide_eq_false c5; clear c5; (first | rw [c5b0] | (simp only [i64_w, i32_w]; rw [c5b0]) | skip); have H' := zzm H; clear H; go_wp2; go_meet
     case rel => exact ⟨_, (false), (by first | rfl | (simp; done) | (simp [*]; done)), H', ⟨by have := HK1.out; first | omega | exact Nat.le_refl _⟩, ⟨by (with_reducible repeat (first | apply Kd.R_alloc | apply Kd.R_drewN | apply Kd.R_drew)); exact HO_3.out⟩, ⟨zzh1⟩⟩
   case rest =>
    clear HC4; try clear p2
    try clear c3
    try clear c5
    try clear c5b0
    try clear p2
    obtain ⟨kq, x14_3, rfl, HA, HJ3, HO_3, HB⟩ := hcut; cases kq with
    | zero => exact absurd HA.out (by simp [spec_UndoneOf.j1])
    | succ kj3 =>
     have H := HA.out; clear HA; simp only [spec_UndoneOf.j1] at H; by_cases c8 : x14_3 = true
     ·
      subst c8; have H1 : (if 0 ≤ x4_1 then (if x4_1 < (l0.length : Int) then ((spec_l22Ours.f ((rd_T27 l0 x4_1).f0) ((rd_T27 l0 x4_1).f1) ((rd_T27 l0 x4_1).f2) ((rd_T27 l0 x4_1).f3) ((rd_T27 l0 x4_1).f4) ((rd_T27 l0 x4_1).f5)).bind fun t372 => (if t372 = true then ((spec_l22First.f kj3 l0 x4_1).bind fun t373 => (spec_UndoneOf.j2 kj3 l0 x3_1 x4_1 (!t373))) else (spec_UndoneOf.j2 kj3 l0 x3_1 x4_1 true))) else (none)) else (none)) = some r := by rw [if_pos rfl] at H; exact H
      clear H; have H := H1; clear H1; have HC9 := zzm H; clear H; go_upto_region 5 with (fail); go_cut [28] (fun v28 wc => ∃ (kq : Nat) (x28_8 : Bool), v28 = .bool x28_8 ∧ Aside0 (spec_UndoneOf.j2 kq l0 x3_1 x4_1 x28_8 = some r) ∧ Aside0 (kq ≤ kj3) ∧ Aside0 (Kd.R k46 46 wc w.heap.size (fun _ => True) u3 x3_1) ∧ Aside0 (Below w.heap.size w wc))
      case first =>
       have H := HC9.out; clear HC9; by_cases c10 : 0 ≤ x4_1
       ·
        rw [if_pos c10] at H; have c10b0 : decide (0 ≤ x4_1) = true := decide_eq_true c10; clear c10; (first | rw [c10b0] | (simp only [i64_w, i32_w]; rw [c10b0]) | skip); by_cases c11 : x4_1 < (l0.length : Int)
        ·
         rw [if_pos c11] at H; have c11b0 : decide (x4_1 < (l0.length : Int)) = true := decide_eq_true c11; clear c11; replace H := Option.bind_eq_some_iff.mp H; obtain ⟨t372, A120, H⟩ := H; replace H : (if t372 = true then ((spec_l22First.f kj3 l0 x4_1).bind fun t373 => (spec_UndoneOf.j2 kj3 l0 x3_1 x4_1 (!t373))) else (spec_UndoneOf.j2 kj3 l0 x3_1 x4_1 true)) = some r := H; have A12 := zzm A120; clear A120; by_cases c13 : t372 = true
         ·
          subst c13; have H1 : ((spec_l22First.f kj3 l0 x4_1).bind fun t373 => (spec_UndoneOf.j2 kj3 l0 x3_1 x4_1 (!t373))) = some r := by rw [if_pos rfl] at H; exact H
          clear H; have H := H1; clear H1; replace H := Option.bind_eq_some_iff.mp H; obtain ⟨t373, A140, H⟩ := H; replace H : (spec_UndoneOf.j2 kj3 l0 x3_1 x4_1 (!t373)) = some r := H; have A14 := zzm A140; clear A140; have H' := zzm H; clear H; have p371 : 0 ≤ (x4_1 : Int) := zzt; have q371 : x4_1 < (l0.length : Int) := zzt; obtain ⟨ad371, A371_5, c371_5, e371, hx371_0, hx371_1, hx371_2, hx371_3, hx371_4, hx371_5, hl371_5, hi371_5⟩ := at_T27 HR0.out x4_1 p371 q371; cases e371; replace hx371_0 := zzx HB.out hx371_0; replace hx371_1 := zzx HB.out hx371_1; replace hx371_2 := zzx HB.out hx371_2; replace hx371_3 := zzx HB.out hx371_3; replace hx371_4 := zzx HB.out hx371_4; replace hx371_5 := zzx HB.out hx371_5; have HR371_5 := zzm hi371_5; have HC371_5 := zzm hl371_5; clear hi371_5 hl371_5; replace p371 := eq_true p371; replace q371 := eq_true q371; go_wp2_with (first | ((with_reducible refine gate_callee (f := 66) rfl ?_); refine goesL_ (some 21) rfl rfl Try.func66 (by kernel_rfl) rfl #[.agg #[.bool ((rd_T27 l0 x4_1).f0), .bool ((rd_T27 l0 x4_1).f1), .int .i64 ((rd_T27 l0 x4_1).f2), .int .i64 ((rd_T27 l0 x4_1).f3), .int .i64 ((rd_T27 l0 x4_1).f4), .slice A371_5 ((rd_T27 l0 x4_1).f5).length c371_5]] rfl (by (try simp only [List.map_toArray, List.map_cons, List.map_nil]); first | done | rfl | (simp only [List.length_drop, List.length_take]; rfl)) ?_; (with_reducible refine (spec_l22Ours.calls ((rd_T27 l0 x4_1).f0) ((rd_T27 l0 x4_1).f1) ((rd_T27 l0 x4_1).f2) ((rd_T27 l0 x4_1).f3) ((rd_T27 l0 x4_1).f4) _ _ ((rd_T27 l0 x4_1).f5) true _ ?side1 ?side2 A12.out).mono ?_); (case side1 => repeat (first | exact (Kd.C_below HR371_5.out HB.out) | (with_reducible refine Kd.C_alloc ?_ _) | (with_reducible refine Kd.C_drewN ?_ _) | (with_reducible refine Kd.C_drew ?_))); (case side2 => exact HC371_5.out); rintro e w15 ⟨rfl, hb⟩; refine ⟨_, rfl, ?_⟩; have n0_ := zzm (Kd.R_below (by (with_reducible repeat (first | apply Kd.R_alloc | apply Kd.R_drewN | apply Kd.R_drew)); exact HO_3.out) hb); have n1_ := zzm (zzp zzh1 hb); clear HO_3 HB; have HO_3 := n0_; have HB := n1_; clear n0_ n1_; (try clear hb); (try clear hb2); (try clear hk); (try clear hi)) | (go_at_call 67; (with_reducible refine (spec_l22First.calls kj3 _ _ l0 x4_1 t373 _ ?side1 ?side2 A14.out).mono ?_); (case side1 => repeat (first | exact (Kd.C_below HR0.out HB.out) | (with_reducible refine Kd.C_alloc ?_ _) | (with_reducible refine Kd.C_drewN ?_ _) | (with_reducible refine Kd.C_drew ?_))); (case side2 => exact HC0.out); rintro e w' ⟨rfl, ⟨nd, rfl⟩⟩)); go_meet
          case rel => exact ⟨_, (!t373), (by first | rfl | (simp; done) | (simp [*]; done)), H', ⟨by have := HK1.out; have := HJ3.out; first | omega | exact Nat.le_refl _⟩, ⟨by (with_reducible repeat (first | apply Kd.R_alloc | apply Kd.R_drewN | apply Kd.R_drew)); exact HO_3.out⟩, ⟨zzh1⟩⟩
         ·
          replace c13 := Bool.eq_false_iff.mpr c13; subst c13; have H1 : (spec_UndoneOf.j2 kj3 l0 x3_1 x4_1 true) = some r := by rw [if_neg (show ¬ (false = true) by decide)] at H; exact H
          clear H; have H := H1; clear H1; have H' := zzm H; clear H; have p371 : 0 ≤ (x4_1 : Int) := zzt; have q371 : x4_1 < (l0.length : Int) := zzt; obtain ⟨ad371, A371_5, c371_5, e371, hx371_0, hx371_1, hx371_2, hx371_3, hx371_4, hx371_5, hl371_5, hi371_5⟩ := at_T27 HR0.out x4_1 p371 q371; cases e371; replace hx371_0 := zzx HB.out hx371_0; replace hx371_1 := zzx HB.out hx371_1; replace hx371_2 := zzx HB.out hx371_2; replace hx371_3 := zzx HB.out hx371_3; replace hx371_4 := zzx HB.out hx371_4; replace hx371_5 := zzx HB.out hx371_5; have HR371_5 := zzm hi371_5; have HC371_5 := zzm hl371_5; clear hi371_5 hl371_5; replace p371 := eq_true p371; replace q371 := eq_true q371; go_wp2_with (first | ((with_reducible refine gate_callee (f := 66) rfl ?_); refine goesL_ (some 21) rfl rfl Try.func66 (by kernel_rfl) rfl #[.agg #[.bool ((rd_T27 l0 x4_1).f0), .bool ((rd_T27 l0 x4_1).f1), .int .i64 ((rd_T27 l0 x4_1).f2), .int .i64 ((rd_T27 l0 x4_1).f3), .int .i64 ((rd_T27 l0 x4_1).f4), .slice A371_5 ((rd_T27 l0 x4_1).f5).length c371_5]] rfl (by (try simp only [List.map_toArray, List.map_cons, List.map_nil]); first | done | rfl | (simp only [List.length_drop, List.length_take]; rfl)) ?_; (with_reducible refine (spec_l22Ours.calls ((rd_T27 l0 x4_1).f0) ((rd_T27 l0 x4_1).f1) ((rd_T27 l0 x4_1).f2) ((rd_T27 l0 x4_1).f3) ((rd_T27 l0 x4_1).f4) _ _ ((rd_T27 l0 x4_1).f5) false _ ?side1 ?side2 A12.out).mono ?_); (case side1 => repeat (first | exact (Kd.C_below HR371_5.out HB.out) | (with_reducible refine Kd.C_alloc ?_ _) | (with_reducible refine Kd.C_drewN ?_ _) | (with_reducible refine Kd.C_drew ?_))); (case side2 => exact HC371_5.out); rintro e w16 ⟨rfl, hb⟩; refine ⟨_, rfl, ?_⟩; have n0_ := zzm (Kd.R_below (by (with_reducible repeat (first | apply Kd.R_alloc | apply Kd.R_drewN | apply Kd.R_drew)); exact HO_3.out) hb); have n1_ := zzm (zzp zzh1 hb); clear HO_3 HB; have HO_3 := n0_; have HB := n1_; clear n0_ n1_; (try clear hb); (try clear hb2); (try clear hk); (try clear hi))); go_meet
          case rel => exact ⟨_, (true), (by first | rfl | (simp; done) | (simp [*]; done)), H', ⟨by have := HK1.out; have := HJ3.out; first | omega | exact Nat.le_refl _⟩, ⟨by (with_reducible repeat (first | apply Kd.R_alloc | apply Kd.R_drewN | apply Kd.R_drew)); exact HO_3.out⟩, ⟨zzh1⟩⟩
        ·
         rw [if_neg c11] at H; exact absurd H (by simp)
       ·
        rw [if_neg c10] at H; exact absurd H (by simp)
      case rest =>
       clear HC9; try clear c1
       try clear p2
       try clear c3
       try clear p3
       try clear q3
       try clear hx3
       try clear c5
       try clear c5b0
       try clear c6
       try clear c8
       try clear c10
       try clear c10b0
       try clear c11
       try clear c11b0
       try clear c13
       try clear hx371_0
       try clear hx371_1
       try clear hx371_2
       try clear hx371_3
       try clear hx371_4
       try clear hx371_5
       try clear p2
       try clear p371
       try clear q371
       obtain ⟨kq, x28_8, rfl, HA, HJ8, HO_3, HB⟩ := hcut; cases kq with
       | zero => exact absurd HA.out (by simp [spec_UndoneOf.j2])
       | succ kj8 =>
        have H := HA.out; clear HA; simp only [spec_UndoneOf.j2] at H; by_cases c17 : x28_8 = true
        ·
         subst c17; have H1 : (spec_UndoneOf.l0 kj8 l0 x3_1 (wrap64 (x4_1 + 1))) = some r := by rw [if_pos rfl] at H; exact H
         clear H; have H := H1; clear H1; have H' := zzm H; clear H; go_wp2; go_roundg kj8
         case measure => have := HK1.out; have := HJ3.out; have := HJ8.out; omega
         case rel => exact ⟨(x3_1), (wrap64 (x4_1 + 1)), (by first | rfl | (simp; done) | (simp [*]; done)), H', ⟨by have := HK1.out; have := HJ3.out; have := HJ8.out; omega⟩, ⟨by (with_reducible repeat (first | apply Kd.R_alloc | apply Kd.R_drewN | apply Kd.R_drew)); exact HO_3.out⟩, ⟨zzh1⟩⟩
        ·
         replace c17 := Bool.eq_false_iff.mpr c17; subst c17; have H1 : ((spec_l22Mark.f kj8 l0 x4_1).bind fun t374 => (if t374 ≥ 0 then (if 0 ≤ t374 then (if t374 < (l0.length : Int) then ((spec_l22Fine.f ((rd_T27 l0 t374).f0) ((rd_T27 l0 t374).f1) ((rd_T27 l0 t374).f2) ((rd_T27 l0 t374).f3) ((rd_T27 l0 t374).f4) ((rd_T27 l0 t374).f5)).bind fun t376 => (if t376 = true then (spec_UndoneOf.l0 kj8 l0 x3_1 (wrap64 (x4_1 + 1))) else (if 0 ≤ x4_1 then (if x4_1 < (l0.length : Int) then (if 0 < (((rd_T27 l0 x4_1).f5).length : Int) then (if 0 < (((rd_T27 l0 t374).f5).length : Int) then (if x3_1.length < 5864062014805 then (spec_UndoneOf.l0 kj8 l0 (x3_1 ++ [(⟨(rd_T27 l0 x4_1).f2, (rd_T34 ((rd_T27 l0 x4_1).f5) 0).f0, (rd_T34 ((rd_T27 l0 t374).f5) 0).f0⟩ : S46)]) (wrap64 (x4_1 + 1))) else (none)) else (none)) else (none)) else (none)) else (none)))) else (none)) else (none)) else (spec_UndoneOf.l0 kj8 l0 x3_1 (wrap64 (x4_1 + 1))))) = some r := by rw [if_neg (show ¬ (false = true) by decide)] at H; exact H
         clear H; have H := H1; clear H1; replace H := Option.bind_eq_some_iff.mp H; obtain ⟨t374, A180, H⟩ := H; replace H : (if t374 ≥ 0 then (if 0 ≤ t374 then (if t374 < (l0.length : Int) then ((spec_l22Fine.f ((rd_T27 l0 t374).f0) ((rd_T27 l0 t374).f1) ((rd_T27 l0 t374).f2) ((rd_T27 l0 t374).f3) ((rd_T27 l0 t374).f4) ((rd_T27 l0 t374).f5)).bind fun t376 => (if t376 = true then (spec_UndoneOf.l0 kj8 l0 x3_1 (wrap64 (x4_1 + 1))) else (if 0 ≤ x4_1 then (if x4_1 < (l0.length : Int) then (if 0 < (((rd_T27 l0 x4_1).f5).length : Int) then (if 0 < (((rd_T27 l0 t374).f5).length : Int) then (if x3_1.length < 5864062014805 then (spec_UndoneOf.l0 kj8 l0 (x3_1 ++ [(⟨(rd_T27 l0 x4_1).f2, (rd_T34 ((rd_T27 l0 x4_1).f5) 0).f0, (rd_T34 ((rd_T27 l0 t374).f5) 0).f0⟩ : S46)]) (wrap64 (x4_1 + 1))) else (none)) else (none)) else (none)) else (none)) else (none)))) else (none)) else (none)) else (spec_UndoneOf.l0 kj8 l0 x3_1 (wrap64 (x4_1 + 1)))) = some r := H; have A18 := zzm A180; clear A180; by_cases c19 : t374 ≥ 0
         ·
          rw [if_pos c19] at H; have c19b0 : decide (0 ≤ t374) = true := decide_eq_true c19; clear c19; by_cases c20 : 0 ≤ t374
          ·
           rw [if_pos c20] at H; have c20b0 : decide (0 ≤ t374) = true := decide_eq_true c20; clear c20; by_cases c21 : t374 < (l0.length : Int)
           ·
            rw [if_pos c21] at H; have c21b0 : decide (t374 < (l0.length : Int)) = true := decide_eq_true c21; clear c21; replace H := Option.bind_eq_some_iff.mp H; obtain ⟨t376, A220, H⟩ := H; replace H : (if t376 = true then (spec_UndoneOf.l0 kj8 l0 x3_1 (wrap64 (x4_1 + 1))) else (if 0 ≤ x4_1 then (if x4_1 < (l0.length : Int) then (if 0 < (((rd_T27 l0 x4_1).f5).length : Int) then (if 0 < (((rd_T27 l0 t374).f5).length : Int) then (if x3_1.length < 5864062014805 then (spec_UndoneOf.l0 kj8 l0 (x3_1 ++ [(⟨(rd_T27 l0 x4_1).f2, (rd_T34 ((rd_T27 l0 x4_1).f5) 0).f0, (rd_T34 ((rd_T27 l0 t374).f5) 0).f0⟩ : S46)]) (wrap64 (x4_1 + 1))) else (none)) else (none)) else (none)) else (none)) else (none))) = some r := H; have A22 := zzm A220; clear A220; by_cases c23 : t376 = true
            ·
             subst c23; have H1 : (spec_UndoneOf.l0 kj8 l0 x3_1 (wrap64 (x4_1 + 1))) = some r := by rw [if_pos rfl] at H; exact H
             clear H; have H := H1; clear H1; have H' := zzm H; clear H; go_wp2_with (first | ((with_reducible refine gate_callee (f := 68) rfl ?_); refine goesL_ (some 31) rfl rfl Try.func68 (by kernel_rfl) rfl #[.slice A0 l0.length c0, .int .i64 x4_1] rfl (by (try simp only [List.map_toArray, List.map_cons, List.map_nil]); first | done | rfl | (simp only [List.length_drop, List.length_take]; rfl)) ?_; (with_reducible refine (spec_l22Mark.calls kj8 _ _ l0 x4_1 t374 _ ?side1 ?side2 A18.out).mono ?_); (case side1 => repeat (first | exact (Kd.C_below HR0.out HB.out) | (with_reducible refine Kd.C_alloc ?_ _) | (with_reducible refine Kd.C_drewN ?_ _) | (with_reducible refine Kd.C_drew ?_))); (case side2 => exact HC0.out); rintro e w' ⟨rfl, ⟨nd, rfl⟩⟩; refine ⟨_, rfl, ?_⟩; have p375 : 0 ≤ (t374 : Int) := zzt; have q375 : t374 < (l0.length : Int) := zzt; obtain ⟨ad375, A375_5, c375_5, e375, hx375_0, hx375_1, hx375_2, hx375_3, hx375_4, hx375_5, hl375_5, hi375_5⟩ := at_T27 HR0.out t374 p375 q375; cases e375; replace hx375_0 := zzx HB.out hx375_0; replace hx375_1 := zzx HB.out hx375_1; replace hx375_2 := zzx HB.out hx375_2; replace hx375_3 := zzx HB.out hx375_3; replace hx375_4 := zzx HB.out hx375_4; replace hx375_5 := zzx HB.out hx375_5; have HR375_5 := zzm hi375_5; have HC375_5 := zzm hl375_5; clear hi375_5 hl375_5; replace p375 := eq_true p375; replace q375 := eq_true q375) | (go_at_call 69; (with_reducible refine (spec_l22Fine.calls ((rd_T27 l0 t374).f0) ((rd_T27 l0 t374).f1) ((rd_T27 l0 t374).f2) ((rd_T27 l0 t374).f3) ((rd_T27 l0 t374).f4) _ _ ((rd_T27 l0 t374).f5) true _ ?side1 ?side2 A22.out).mono ?_); (case side1 => repeat (first | exact (Kd.C_below HR375_5.out zzh1) | (with_reducible refine Kd.C_alloc ?_ _) | (with_reducible refine Kd.C_drewN ?_ _) | (with_reducible refine Kd.C_drew ?_))); (case side2 => exact HC375_5.out); rintro e w24 ⟨rfl, hb⟩; have n0_ := zzm (Kd.R_below (by (with_reducible repeat (first | apply Kd.R_alloc | apply Kd.R_drewN | apply Kd.R_drew)); exact HO_3.out) hb); have n1_ := zzm (zzp zzh1 hb); clear HO_3 HB; have HO_3 := n0_; have HB := n1_; clear n0_ n1_; (try clear hb); (try clear hb2); (try clear hk); (try clear hi))); go_roundg kj8
             case measure => have := HK1.out; have := HJ3.out; have := HJ8.out; omega
             case rel => exact ⟨(x3_1), (wrap64 (x4_1 + 1)), (by first | rfl | (simp; done) | (simp [*]; done)), H', ⟨by have := HK1.out; have := HJ3.out; have := HJ8.out; omega⟩, ⟨by (with_reducible repeat (first | apply Kd.R_alloc | apply Kd.R_drewN | apply Kd.R_drew)); exact HO_3.out⟩, ⟨zzh1⟩⟩
            ·
             replace c23 := Bool.eq_false_iff.mpr c23; subst c23; have H1 : (if 0 ≤ x4_1 then (if x4_1 < (l0.length : Int) then (if 0 < (((rd_T27 l0 x4_1).f5).length : Int) then (if 0 < (((rd_T27 l0 t374).f5).length : Int) then (if x3_1.length < 5864062014805 then (spec_UndoneOf.l0 kj8 l0 (x3_1 ++ [(⟨(rd_T27 l0 x4_1).f2, (rd_T34 ((rd_T27 l0 x4_1).f5) 0).f0, (rd_T34 ((rd_T27 l0 t374).f5) 0).f0⟩ : S46)]) (wrap64 (x4_1 + 1))) else (none)) else (none)) else (none)) else (none)) else (none)) = some r := by rw [if_neg (show ¬ (false = true) by decide)] at H; exact H
             clear H; have H := H1; clear H1; by_cases c25 : 0 ≤ x4_1
             ·
              rw [if_pos c25] at H; have c25b0 : decide (0 ≤ x4_1) = true := decide_eq_true c25; clear c25; by_cases c26 : x4_1 < (l0.length : Int)
              ·
               rw [if_pos c26] at H; have c26b0 : decide (x4_1 < (l0.length : Int)) = true := decide_eq_true c26; clear c26; by_cases c27 : 0 < (((rd_T27 l0 x4_1).f5).length : Int)
               ·
                rw [if_pos c27] at H; have c27b0 : decide (0 < (((rd_T27 l0 x4_1).f5).length : Int)) = true := decide_eq_true c27; have c27b1 : decide (0 < ((rd_T27 l0 x4_1).f5).length) = true := decide_eq_true (by omega); clear c27; by_cases c28 : 0 < (((rd_T27 l0 t374).f5).length : Int)
                ·
                 rw [if_pos c28] at H; have c28b0 : decide (0 < (((rd_T27 l0 t374).f5).length : Int)) = true := decide_eq_true c28; have c28b1 : decide (0 < ((rd_T27 l0 t374).f5).length) = true := decide_eq_true (by omega); clear c28; by_cases c29 : x3_1.length < 5864062014805
                 ·
                  rw [if_pos c29] at H; have LMc29 := zzm c29; clear c29; obtain ⟨y382, hy382⟩ : ∃ y_ : List (S46), y_ = (x3_1 ++ [(⟨(rd_T27 l0 x4_1).f2, (rd_T34 ((rd_T27 l0 x4_1).f5) 0).f0, (rd_T34 ((rd_T27 l0 t374).f5) 0).f0⟩ : S46)]) := ⟨_, rfl⟩; replace H : (spec_UndoneOf.l0 kj8 l0 y382 (wrap64 (x4_1 + 1))) = some r := by first | (rw [hy382]; with_reducible exact H) | (have H2_ := (Option.bind_some _ _).symm.trans H; rw [hy382]; with_reducible exact H2_) | (have H2_ := (Option.bind_some _ _).symm.trans H; with_reducible exact H2_) | with_reducible exact H | (rw [hy382]; exact H) | exact H
                  have Ny382 := zzm hy382; clear hy382; have H' := zzm H; clear H; try go_wp2_with (first | ((with_reducible refine gate_callee (f := 68) rfl ?_); refine goesL_ (some 31) rfl rfl Try.func68 (by kernel_rfl) rfl #[.slice A0 l0.length c0, .int .i64 x4_1] rfl (by (try simp only [List.map_toArray, List.map_cons, List.map_nil]); first | done | rfl | (simp only [List.length_drop, List.length_take]; rfl)) ?_; (with_reducible refine (spec_l22Mark.calls kj8 _ _ l0 x4_1 t374 _ ?side1 ?side2 A18.out).mono ?_); (case side1 => repeat (first | exact (Kd.C_below HR0.out HB.out) | (with_reducible refine Kd.C_alloc ?_ _) | (with_reducible refine Kd.C_drewN ?_ _) | (with_reducible refine Kd.C_drew ?_))); (case side2 => exact HC0.out); rintro e w' ⟨rfl, ⟨nd, rfl⟩⟩; refine ⟨_, rfl, ?_⟩; have p375 : 0 ≤ (t374 : Int) := zzt; have q375 : t374 < (l0.length : Int) := zzt; obtain ⟨ad375, A375_5, c375_5, e375, hx375_0, hx375_1, hx375_2, hx375_3, hx375_4, hx375_5, hl375_5, hi375_5⟩ := at_T27 HR0.out t374 p375 q375; cases e375; replace hx375_0 := zzx HB.out hx375_0; replace hx375_1 := zzx HB.out hx375_1; replace hx375_2 := zzx HB.out hx375_2; replace hx375_3 := zzx HB.out hx375_3; replace hx375_4 := zzx HB.out hx375_4; replace hx375_5 := zzx HB.out hx375_5; have HR375_5 := zzm hi375_5; have HC375_5 := zzm hl375_5; clear hi375_5 hl375_5; replace p375 := eq_true p375; replace q375 := eq_true q375) | (go_at_call 69; (with_reducible refine (spec_l22Fine.calls ((rd_T27 l0 t374).f0) ((rd_T27 l0 t374).f1) ((rd_T27 l0 t374).f2) ((rd_T27 l0 t374).f3) ((rd_T27 l0 t374).f4) _ _ ((rd_T27 l0 t374).f5) false _ ?side1 ?side2 A22.out).mono ?_); (case side1 => repeat (first | exact (Kd.C_below HR375_5.out zzh1) | (with_reducible refine Kd.C_alloc ?_ _) | (with_reducible refine Kd.C_drewN ?_ _) | (with_reducible refine Kd.C_drew ?_))); (case side2 => exact HC375_5.out); rintro e w30 ⟨rfl, hb⟩; have n0_ := zzm (Kd.R_below (by (with_reducible repeat (first | apply Kd.R_alloc | apply Kd.R_drewN | apply Kd.R_drew)); exact HO_3.out) hb); have n1_ := zzm (zzp zzh1 hb); clear HO_3 HB; have HO_3 := n0_; have HB := n1_; clear n0_ n1_; (try clear hb); (try clear hb2); (try clear hk); (try clear hi)))
                  have n0_ := zzm (Kd.R_drew HO_3.out); have n1_ := zzm (zzc HB.out); clear HO_3; clear HB; have HO_3 := n0_; have HB := n1_; clear n0_ n1_; have p377 : 0 ≤ (x4_1 : Int) := zzt; have q377 : x4_1 < (l0.length : Int) := zzt; obtain ⟨ad377, A377_5, c377_5, e377, hx377_0, hx377_1, hx377_2, hx377_3, hx377_4, hx377_5, hl377_5, hi377_5⟩ := at_T27 HR0.out x4_1 p377 q377; have hw377_5 := hx377_5; have hw377_4 := hx377_4; have hw377_3 := hx377_3; have hw377_2 := hx377_2; have hw377_1 := hx377_1; have hw377_0 := hx377_0; obtain rfl : ad375 = ad377 := (by injection e377); replace hx377_0 := zzx HB.out hx377_0; replace hx377_1 := zzx HB.out hx377_1; replace hx377_2 := zzx HB.out hx377_2; replace hx377_3 := zzx HB.out hx377_3; replace hx377_4 := zzx HB.out hx377_4; replace hx377_5 := zzx HB.out hx377_5; have HR377_5 := zzm hi377_5; have HC377_5 := zzm hl377_5; clear hi377_5 hl377_5; replace p377 := eq_true p377; replace q377 := eq_true q377; have p378 : 0 ≤ (x4_1 : Int) := zzt; have q378 : x4_1 < (l0.length : Int) := zzt; obtain ⟨ad378, A378_5, c378_5, e378, hx378_0, hx378_1, hx378_2, hx378_3, hx378_4, hx378_5, hl378_5, hi378_5⟩ := at_T27 HR0.out x4_1 p378 q378; have hw378_5 := hx378_5; have hw378_4 := hx378_4; have hw378_3 := hx378_3; have hw378_2 := hx378_2; have hw378_1 := hx378_1; have hw378_0 := hx378_0; obtain rfl : ad375 = ad378 := (by injection e378); replace hx378_0 := zzx HB.out hx378_0; replace hx378_1 := zzx HB.out hx378_1; replace hx378_2 := zzx HB.out hx378_2; replace hx378_3 := zzx HB.out hx378_3; replace hx378_4 := zzx HB.out hx378_4; replace hx378_5 := zzx HB.out hx378_5; have HR378_5 := zzm hi378_5; have HC378_5 := zzm hl378_5; clear hi378_5 hl378_5; replace p378 := eq_true p378; replace q378 := eq_true q378; have ea_ := Option.some.inj (hx377_5.symm.trans hx378_5); injection ea_ with ea_ en_ ec_; subst ea_; subst ec_; clear en_; have p379 : 0 ≤ (0 : Int) := (by omega); have q379 : 0 < (((rd_T27 l0 x4_1).f5).length : Int) := zzt; obtain ⟨ad379, A379_3, c379_3, A379_5, c379_5, e379, hx379_0, hx379_1, hx379_2, hx379_3, hx379_4, hx379_5, hl379_3, hi379_3, hl379_5, hi379_5⟩ := at_T34 HR378_5.out 0 p379 q379; have hw379_5 := hx379_5; (try rw [show ((0 : Int)).toNat = 0 from rfl] at hw379_5); (try rw [show 0 * 6 = 0 from rfl] at hw379_5); (try rw [Addr.add_zero'] at hw379_5); have hw379_4 := hx379_4; (try rw [show ((0 : Int)).toNat = 0 from rfl] at hw379_4); (try rw [show 0 * 6 = 0 from rfl] at hw379_4); (try rw [Addr.add_zero'] at hw379_4); have hw379_3 := hx379_3; (try rw [show ((0 : Int)).toNat = 0 from rfl] at hw379_3); (try rw [show 0 * 6 = 0 from rfl] at hw379_3); (try rw [Addr.add_zero'] at hw379_3); have hw379_2 := hx379_2; (try rw [show ((0 : Int)).toNat = 0 from rfl] at hw379_2); (try rw [show 0 * 6 = 0 from rfl] at hw379_2); (try rw [Addr.add_zero'] at hw379_2); have hw379_1 := hx379_1; (try rw [show ((0 : Int)).toNat = 0 from rfl] at hw379_1); (try rw [show 0 * 6 = 0 from rfl] at hw379_1); (try rw [Addr.add_zero'] at hw379_1); have hw379_0 := hx379_0; (try rw [show ((0 : Int)).toNat = 0 from rfl] at hw379_0); (try rw [show 0 * 6 = 0 from rfl] at hw379_0); (try rw [Addr.add_zero'] at hw379_0); cases e379; have qi379 : (0 < ((rd_T27 l0 x4_1).f5).length) = True := eq_true (by omega); (try rw [show ((0 : Int)).toNat = 0 from rfl] at hx379_0); (try rw [show 0 * 6 = 0 from rfl] at hx379_0); (try rw [Addr.add_zero'] at hx379_0); (try rw [show ((0 : Int)).toNat = 0 from rfl] at hx379_1); (try rw [show 0 * 6 = 0 from rfl] at hx379_1); (try rw [Addr.add_zero'] at hx379_1); (try rw [show ((0 : Int)).toNat = 0 from rfl] at hx379_2); (try rw [show 0 * 6 = 0 from rfl] at hx379_2); (try rw [Addr.add_zero'] at hx379_2); (try rw [show ((0 : Int)).toNat = 0 from rfl] at hx379_3); (try rw [show 0 * 6 = 0 from rfl] at hx379_3); (try rw [Addr.add_zero'] at hx379_3); (try rw [show ((0 : Int)).toNat = 0 from rfl] at hx379_4); (try rw [show 0 * 6 = 0 from rfl] at hx379_4); (try rw [Addr.add_zero'] at hx379_4); (try rw [show ((0 : Int)).toNat = 0 from rfl] at hx379_5); (try rw [show 0 * 6 = 0 from rfl] at hx379_5); (try rw [Addr.add_zero'] at hx379_5); replace hx379_0 := zzx HB.out hx379_0; replace hx379_1 := zzx HB.out hx379_1; replace hx379_2 := zzx HB.out hx379_2; replace hx379_3 := zzx HB.out hx379_3; replace hx379_4 := zzx HB.out hx379_4; replace hx379_5 := zzx HB.out hx379_5; have HR379_3 := zzm hi379_3; have HC379_3 := zzm hl379_3; clear hi379_3 hl379_3; have HR379_5 := zzm hi379_5; have HC379_5 := zzm hl379_5; clear hi379_5 hl379_5; replace p379 := eq_true p379; replace q379 := eq_true q379; have p380 : 0 ≤ (t374 : Int) := zzt; have q380 : t374 < (l0.length : Int) := zzt; obtain ⟨ad380, A380_5, c380_5, e380, hx380_0, hx380_1, hx380_2, hx380_3, hx380_4, hx380_5, hl380_5, hi380_5⟩ := at_T27 HR0.out t374 p380 q380; have hw380_5 := hx380_5; have hw380_4 := hx380_4; have hw380_3 := hx380_3; have hw380_2 := hx380_2; have hw380_1 := hx380_1; have hw380_0 := hx380_0; obtain rfl : ad375 = ad380 := (by injection e380); replace hx380_0 := zzx HB.out hx380_0; replace hx380_1 := zzx HB.out hx380_1; replace hx380_2 := zzx HB.out hx380_2; replace hx380_3 := zzx HB.out hx380_3; replace hx380_4 := zzx HB.out hx380_4; replace hx380_5 := zzx HB.out hx380_5; have HR380_5 := zzm hi380_5; have HC380_5 := zzm hl380_5; clear hi380_5 hl380_5; replace p380 := eq_true p380; replace q380 := eq_true q380; have p381 : 0 ≤ (0 : Int) := (by omega); have q381 : 0 < (((rd_T27 l0 t374).f5).length : Int) := zzt; obtain ⟨ad381, A381_3, c381_3, A381_5, c381_5, e381, hx381_0, hx381_1, hx381_2, hx381_3, hx381_4, hx381_5, hl381_3, hi381_3, hl381_5, hi381_5⟩ := at_T34 HR380_5.out 0 p381 q381; have hw381_5 := hx381_5; (try rw [show ((0 : Int)).toNat = 0 from rfl] at hw381_5); (try rw [show 0 * 6 = 0 from rfl] at hw381_5); (try rw [Addr.add_zero'] at hw381_5); have hw381_4 := hx381_4; (try rw [show ((0 : Int)).toNat = 0 from rfl] at hw381_4); (try rw [show 0 * 6 = 0 from rfl] at hw381_4); (try rw [Addr.add_zero'] at hw381_4); have hw381_3 := hx381_3; (try rw [show ((0 : Int)).toNat = 0 from rfl] at hw381_3); (try rw [show 0 * 6 = 0 from rfl] at hw381_3); (try rw [Addr.add_zero'] at hw381_3); have hw381_2 := hx381_2; (try rw [show ((0 : Int)).toNat = 0 from rfl] at hw381_2); (try rw [show 0 * 6 = 0 from rfl] at hw381_2); (try rw [Addr.add_zero'] at hw381_2); have hw381_1 := hx381_1; (try rw [show ((0 : Int)).toNat = 0 from rfl] at hw381_1); (try rw [show 0 * 6 = 0 from rfl] at hw381_1); (try rw [Addr.add_zero'] at hw381_1); have hw381_0 := hx381_0; (try rw [show ((0 : Int)).toNat = 0 from rfl] at hw381_0); (try rw [show 0 * 6 = 0 from rfl] at hw381_0); (try rw [Addr.add_zero'] at hw381_0); cases e381; have qi381 : (0 < ((rd_T27 l0 t374).f5).length) = True := eq_true (by omega); (try rw [show ((0 : Int)).toNat = 0 from rfl] at hx381_0); (try rw [show 0 * 6 = 0 from rfl] at hx381_0); (try rw [Addr.add_zero'] at hx381_0); (try rw [show ((0 : Int)).toNat = 0 from rfl] at hx381_1); (try rw [show 0 * 6 = 0 from rfl] at hx381_1); (try rw [Addr.add_zero'] at hx381_1); (try rw [show ((0 : Int)).toNat = 0 from rfl] at hx381_2); (try rw [show 0 * 6 = 0 from rfl] at hx381_2); (try rw [Addr.add_zero'] at hx381_2); (try rw [show ((0 : Int)).toNat = 0 from rfl] at hx381_3); (try rw [show 0 * 6 = 0 from rfl] at hx381_3); (try rw [Addr.add_zero'] at hx381_3); (try rw [show ((0 : Int)).toNat = 0 from rfl] at hx381_4); (try rw [show 0 * 6 = 0 from rfl] at hx381_4); (try rw [Addr.add_zero'] at hx381_4); (try rw [show ((0 : Int)).toNat = 0 from rfl] at hx381_5); (try rw [show 0 * 6 = 0 from rfl] at hx381_5); (try rw [Addr.add_zero'] at hx381_5); replace hx381_0 := zzx HB.out hx381_0; replace hx381_1 := zzx HB.out hx381_1; replace hx381_2 := zzx HB.out hx381_2; replace hx381_3 := zzx HB.out hx381_3; replace hx381_4 := zzx HB.out hx381_4; replace hx381_5 := zzx HB.out hx381_5; have HR381_3 := zzm hi381_3; have HC381_3 := zzm hl381_3; clear hi381_3 hl381_3; have HR381_5 := zzm hi381_5; have HC381_5 := zzm hl381_5; clear hi381_5 hl381_5; replace p381 := eq_true p381; replace q381 := eq_true q381; refine start_ (n := 26) (S := fun w' => w'.cell? (ad375.add ((x4_1).toNat * 6)) = some (.bool ((rd_T27 l0 x4_1).f0)) ∧ w'.cell? ⟨(ad375.add ((x4_1).toNat * 6)).block, (ad375.add ((x4_1).toNat * 6)).off + 1, none⟩ = some (.bool ((rd_T27 l0 x4_1).f1)) ∧ w'.cell? ⟨(ad375.add ((x4_1).toNat * 6)).block, (ad375.add ((x4_1).toNat * 6)).off + 2, none⟩ = some (.int .i64 ((rd_T27 l0 x4_1).f2)) ∧ w'.cell? ⟨(ad375.add ((x4_1).toNat * 6)).block, (ad375.add ((x4_1).toNat * 6)).off + 3, none⟩ = some (.int .i64 ((rd_T27 l0 x4_1).f3)) ∧ w'.cell? ⟨(ad375.add ((x4_1).toNat * 6)).block, (ad375.add ((x4_1).toNat * 6)).off + 4, none⟩ = some (.int .i64 ((rd_T27 l0 x4_1).f4)) ∧ w'.cell? ⟨(ad375.add ((x4_1).toNat * 6)).block, (ad375.add ((x4_1).toNat * 6)).off + 5, none⟩ = some (.slice (some ad379) ((rd_T27 l0 x4_1).f5).length c377_5) ∧ w'.cell? (ad375.add ((x4_1).toNat * 6)) = some (.bool ((rd_T27 l0 x4_1).f0)) ∧ w'.cell? ⟨(ad375.add ((x4_1).toNat * 6)).block, (ad375.add ((x4_1).toNat * 6)).off + 1, none⟩ = some (.bool ((rd_T27 l0 x4_1).f1)) ∧ w'.cell? ⟨(ad375.add ((x4_1).toNat * 6)).block, (ad375.add ((x4_1).toNat * 6)).off + 2, none⟩ = some (.int .i64 ((rd_T27 l0 x4_1).f2)) ∧ w'.cell? ⟨(ad375.add ((x4_1).toNat * 6)).block, (ad375.add ((x4_1).toNat * 6)).off + 3, none⟩ = some (.int .i64 ((rd_T27 l0 x4_1).f3)) ∧ w'.cell? ⟨(ad375.add ((x4_1).toNat * 6)).block, (ad375.add ((x4_1).toNat * 6)).off + 4, none⟩ = some (.int .i64 ((rd_T27 l0 x4_1).f4)) ∧ w'.cell? ⟨(ad375.add ((x4_1).toNat * 6)).block, (ad375.add ((x4_1).toNat * 6)).off + 5, none⟩ = some (.slice (some ad379) ((rd_T27 l0 x4_1).f5).length c377_5) ∧ w'.cell? ad379 = some (.int .i64 ((rd_T34 ((rd_T27 l0 x4_1).f5) 0).f0)) ∧ w'.cell? ⟨ad379.block, ad379.off + 1, none⟩ = some (.int .i64 ((rd_T34 ((rd_T27 l0 x4_1).f5) 0).f1)) ∧ w'.cell? ⟨ad379.block, ad379.off + 2, none⟩ = some (.bool ((rd_T34 ((rd_T27 l0 x4_1).f5) 0).f2)) ∧ w'.cell? ⟨ad379.block, ad379.off + 3, none⟩ = some (.slice A379_3 ((rd_T34 ((rd_T27 l0 x4_1).f5) 0).f3).length c379_3) ∧ w'.cell? ⟨ad379.block, ad379.off + 4, none⟩ = some (.bool ((rd_T34 ((rd_T27 l0 x4_1).f5) 0).f4)) ∧ w'.cell? ⟨ad379.block, ad379.off + 5, none⟩ = some (.slice A379_5 ((rd_T34 ((rd_T27 l0 x4_1).f5) 0).f5).length c379_5) ∧ w'.cell? (ad375.add ((t374).toNat * 6)) = some (.bool ((rd_T27 l0 t374).f0)) ∧ w'.cell? ⟨(ad375.add ((t374).toNat * 6)).block, (ad375.add ((t374).toNat * 6)).off + 1, none⟩ = some (.bool ((rd_T27 l0 t374).f1)) ∧ w'.cell? ⟨(ad375.add ((t374).toNat * 6)).block, (ad375.add ((t374).toNat * 6)).off + 2, none⟩ = some (.int .i64 ((rd_T27 l0 t374).f2)) ∧ w'.cell? ⟨(ad375.add ((t374).toNat * 6)).block, (ad375.add ((t374).toNat * 6)).off + 3, none⟩ = some (.int .i64 ((rd_T27 l0 t374).f3)) ∧ w'.cell? ⟨(ad375.add ((t374).toNat * 6)).block, (ad375.add ((t374).toNat * 6)).off + 4, none⟩ = some (.int .i64 ((rd_T27 l0 t374).f4)) ∧ w'.cell? ⟨(ad375.add ((t374).toNat * 6)).block, (ad375.add ((t374).toNat * 6)).off + 5, none⟩ = some (.slice (some ad381) ((rd_T27 l0 t374).f5).length c380_5) ∧ w'.cell? ad381 = some (.int .i64 ((rd_T34 ((rd_T27 l0 t374).f5) 0).f0)) ∧ w'.cell? ⟨ad381.block, ad381.off + 1, none⟩ = some (.int .i64 ((rd_T34 ((rd_T27 l0 t374).f5) 0).f1)) ∧ w'.cell? ⟨ad381.block, ad381.off + 2, none⟩ = some (.bool ((rd_T34 ((rd_T27 l0 t374).f5) 0).f2)) ∧ w'.cell? ⟨ad381.block, ad381.off + 3, none⟩ = some (.slice A381_3 ((rd_T34 ((rd_T27 l0 t374).f5) 0).f3).length c381_3) ∧ w'.cell? ⟨ad381.block, ad381.off + 4, none⟩ = some (.bool ((rd_T34 ((rd_T27 l0 t374).f5) 0).f4)) ∧ w'.cell? ⟨ad381.block, ad381.off + 5, none⟩ = some (.slice A381_5 ((rd_T34 ((rd_T27 l0 t374).f5) 0).f5).length c381_5)) (ds := []) (zzB 26 0) (by kernel_rfl) rfl rfl ⟨(zzx HB.out hw377_0), (zzx HB.out hw377_1), (zzx HB.out hw377_2), (zzx HB.out hw377_3), (zzx HB.out hw377_4), (zzx HB.out hw377_5), (zzx HB.out hw378_0), (zzx HB.out hw378_1), (zzx HB.out hw378_2), (zzx HB.out hw378_3), (zzx HB.out hw378_4), (zzx HB.out hw378_5), (zzx HB.out hw379_0), (zzx HB.out hw379_1), (zzx HB.out hw379_2), (zzx HB.out hw379_3), (zzx HB.out hw379_4), (zzx HB.out hw379_5), (zzx HB.out hw380_0), (zzx HB.out hw380_1), (zzx HB.out hw380_2), (zzx HB.out hw380_3), (zzx HB.out hw380_4), (zzx HB.out hw380_5), (zzx HB.out hw381_0), (zzx HB.out hw381_1), (zzx HB.out hw381_2), (zzx HB.out hw381_3), (zzx HB.out hw381_4), (zzx HB.out hw381_5)⟩ (fun hHeld => ?_); refine with_tabW spec_UndoneOf.tab8 spec_UndoneOf.bits8 (fun HT_ HW_ => ?_); generalize w30.drew = w31 at HO_3 HB HR377_5 HR378_5 HR379_3 HR379_5 HR380_5 HR381_3 HR381_5 hx377_0 hx377_1 hx377_2 hx377_3 hx377_4 hx377_5 hx378_0 hx378_1 hx378_2 hx378_3 hx378_4 hx378_5 hx379_0 hx379_1 hx379_2 hx379_3 hx379_4 hx379_5 hx380_0 hx380_1 hx380_2 hx380_3 hx380_4 hx380_5 hx381_0 hx381_1 hx381_2 hx381_3 hx381_4 hx381_5 hHeld ⊢; refine pure_ (i := 0) (N := some 42) (v := ?_) (a' := ?_) (zzB 26 1) rfl rfl (any_of HT_.out (by kernel_rfl)) (fun _ _ _ h => h) (Or.inl ⟨by rfl, ?_⟩) ?_ ?_; rotate_left
                  ·
                   intro w'; go_simp; with_reducible rfl
                  rotate_left
                  ·
                   simp only [Act.put, zzq, zzr, zzs, i64_w, i32_w]; rfl
                  refine pure_ (i := 1) (N := some 43) (v := ?_) (a' := ?_) (zzB 26 3) rfl rfl (any_of HT_.out (by kernel_rfl)) (fun _ _ _ h => h) (Or.inl ⟨by rfl, ?_⟩) ?_ ?_; rotate_left
                  ·
                   intro w'; go_simp; with_reducible rfl
                  rotate_left
                  ·
                   simp only [Act.put, zzq, zzr, zzs, i64_w, i32_w]; rfl
                  refine pure_ (i := 2) (N := some 44) (v := ?_) (a' := ?_) (zzB 26 7) rfl rfl (any_of HT_.out (by kernel_rfl)) (fun _ _ _ h => h) (Or.inl ⟨by rfl, ?_⟩) ?_ ?_; rotate_left
                  ·
                   intro w'; go_simp; with_reducible rfl
                  rotate_left
                  ·
                   simp only [Act.put, zzq, zzr, zzs, i64_w, i32_w]; rfl
                  refine pure_ (i := 3) (N := some 45) (v := ?_) (a' := ?_) (zzB 26 15) rfl rfl (any_of HT_.out (by kernel_rfl)) (fun _ _ _ h => h) (Or.inl ⟨by rfl, ?_⟩) ?_ ?_; rotate_left
                  ·
                   intro w'; go_simp; with_reducible rfl
                  rotate_left
                  ·
                   simp only [Act.put, zzq, zzr, zzs, i64_w, i32_w]; rfl
                  refine pure_ (i := 4) (N := some 46) (v := ?_) (a' := ?_) (zzB 26 31) rfl rfl (any_of HT_.out (by kernel_rfl)) (fun _ _ _ h => h) (Or.inl ⟨by rfl, ?_⟩) ?_ ?_; rotate_left
                  ·
                   intro w'; go_simp; with_reducible rfl
                  rotate_left
                  ·
                   simp only [Act.put, zzq, zzr, zzs, i64_w, i32_w]; rfl
                  refine pure_ (i := 6) (N := some 48) (v := ?_) (a' := ?_) (zzB 26 95) rfl rfl (any_of HT_.out (by kernel_rfl)) (fun _ _ _ h => h) (Or.inl ⟨by rfl, ?_⟩) ?_ ?_; rotate_left
                  ·
                   intro w'; go_simp; with_reducible rfl
                  rotate_left
                  ·
                   simp only [Act.put, zzq, zzr, zzs, i64_w, i32_w]; rfl
                  refine pure_ (i := 7) (N := some 49) (v := ?_) (a' := ?_) (zzB 26 223) rfl rfl (any_of HT_.out (by kernel_rfl)) (fun _ _ _ h => h) (Or.inl ⟨by rfl, ?_⟩) ?_ ?_; rotate_left
                  ·
                   intro w'; go_simp; with_reducible rfl
                  rotate_left
                  ·
                   simp only [Act.put, zzq, zzr, zzs, i64_w, i32_w]; rfl
                  refine pure_ (i := 8) (N := some 50) (v := ?_) (a' := ?_) (zzB 26 479) rfl rfl (any_of HT_.out (by kernel_rfl)) (fun _ _ _ h => h) (Or.inl ⟨by rfl, ?_⟩) ?_ ?_; rotate_left
                  ·
                   intro w'; go_simp; with_reducible rfl
                  rotate_left
                  ·
                   simp only [Act.put, zzq, zzr, zzs, i64_w, i32_w]; rfl
                  refine pure_ (i := 9) (N := some 51) (v := ?_) (a' := ?_) (zzB 26 991) rfl rfl (any_of HT_.out (by kernel_rfl)) (fun _ _ _ h => h) (Or.inl ⟨by rfl, ?_⟩) ?_ ?_; rotate_left
                  ·
                   intro w'; go_simp; with_reducible rfl
                  rotate_left
                  ·
                   simp only [Act.put, zzq, zzr, zzs, i64_w, i32_w]; rfl
                  refine pure_ (i := 14) (N := some 56) (v := ?_) (a' := ?_) (zzB 26 17375) rfl rfl (any_of HT_.out (by kernel_rfl)) (fun _ _ _ h => h) (Or.inl ⟨by rfl, ?_⟩) ?_ ?_; rotate_left
                  ·
                   intro w'; go_simp; with_reducible rfl
                  rotate_left
                  ·
                   simp only [Act.put, zzq, zzr, zzs, i64_w, i32_w]; rfl
                  refine pure_ (i := 15) (N := some 57) (v := ?_) (a' := ?_) (zzB 26 50143) rfl rfl (any_of HT_.out (by kernel_rfl)) (fun _ _ _ h => h) (Or.inl ⟨by rfl, ?_⟩) ?_ ?_; rotate_left
                  ·
                   intro w'; go_simp; with_reducible rfl
                  rotate_left
                  ·
                   simp only [Act.put, zzq, zzr, zzs, i64_w, i32_w]; rfl
                  refine pure_ (i := 16) (N := some 58) (v := ?_) (a' := ?_) (zzB 26 115679) rfl rfl (any_of HT_.out (by kernel_rfl)) (fun _ _ _ h => h) (Or.inl ⟨by rfl, ?_⟩) ?_ ?_; rotate_left
                  ·
                   intro w'; go_simp; with_reducible rfl
                  rotate_left
                  ·
                   simp only [Act.put, zzq, zzr, zzs, i64_w, i32_w]; rfl
                  refine pure_ (i := 17) (N := some 59) (v := ?_) (a' := ?_) (zzB 26 246751) rfl rfl (any_of HT_.out (by kernel_rfl)) (fun _ _ _ h => h) (Or.inl ⟨by rfl, ?_⟩) ?_ ?_; rotate_left
                  ·
                   intro w'; go_simp; with_reducible rfl
                  rotate_left
                  ·
                   simp only [Act.put, zzq, zzr, zzs, i64_w, i32_w]; rfl
                  refine take_ (i := 5) (N := some 47) (v := ?_) (a' := ?_) (zzB 26 246783) rfl rfl (take_ofW HT_.out HW_.out (by kernel_rfl)) (fun _ _ _ h => h) (Or.inl ⟨by rfl, ?_⟩) hHeld ?_ ?_; rotate_left
                  ·
                   rintro w' ⟨s0, s1, s2, s3, s4, s5, s6, s7, s8, s9, s10, s11, s12, s13, s14, s15, s16, s17, s18, s19, s20, s21, s22, s23, s24, s25, s26, s27, s28, s29⟩; go_simp; with_reducible rfl
                  rotate_left
                  ·
                   simp only [Act.put, zzq, zzr, zzs, i64_w, i32_w]; rfl
                  refine take_ (i := 10) (N := some 52) (v := ?_) (a' := ?_) (zzB 26 247807) rfl rfl (take_ofW HT_.out HW_.out (by kernel_rfl)) (fun _ _ _ h => h) (Or.inl ⟨by rfl, ?_⟩) hHeld ?_ ?_; rotate_left
                  ·
                   rintro w' ⟨s0, s1, s2, s3, s4, s5, s6, s7, s8, s9, s10, s11, s12, s13, s14, s15, s16, s17, s18, s19, s20, s21, s22, s23, s24, s25, s26, s27, s28, s29⟩; go_simp; with_reducible rfl
                  rotate_left
                  ·
                   simp only [Act.put, zzq, zzr, zzs, i64_w, i32_w]; rfl
                  refine pure_ (i := 11) (N := some 53) (v := ?_) (a' := ?_) (zzB 26 249855) rfl rfl (any_of HT_.out (by kernel_rfl)) (fun _ _ _ h => h) (Or.inl ⟨by rfl, ?_⟩) ?_ ?_; rotate_left
                  ·
                   intro w'; go_simp; with_reducible rfl
                  rotate_left
                  ·
                   simp only [Act.put, zzq, zzr, zzs, i64_w, i32_w]; rfl
                  refine pure_ (i := 12) (N := some 54) (v := ?_) (a' := ?_) (zzB 26 253951) rfl rfl (any_of HT_.out (by kernel_rfl)) (fun _ _ _ h => h) (Or.inl ⟨by rfl, ?_⟩) ?_ ?_; rotate_left
                  ·
                   intro w'; go_simp; with_reducible rfl
                  rotate_left
                  ·
                   simp only [Act.put, zzq, zzr, zzs, i64_w, i32_w]; rfl
                  refine take_ (i := 13) (N := some 55) (v := ?_) (a' := ?_) (zzB 26 262143) rfl rfl (take_ofW HT_.out HW_.out (by kernel_rfl)) (fun _ _ _ h => h) (Or.inl ⟨by rfl, ?_⟩) hHeld ?_ ?_; rotate_left
                  ·
                   rintro w' ⟨s0, s1, s2, s3, s4, s5, s6, s7, s8, s9, s10, s11, s12, s13, s14, s15, s16, s17, s18, s19, s20, s21, s22, s23, s24, s25, s26, s27, s28, s29⟩; go_simp; with_reducible rfl
                  rotate_left
                  ·
                   simp only [Act.put, zzq, zzr, zzs, i64_w, i32_w]; rfl
                  refine take_ (i := 18) (N := some 60) (v := ?_) (a' := ?_) (zzB 26 524287) rfl rfl (take_ofW HT_.out HW_.out (by kernel_rfl)) (fun _ _ _ h => h) (Or.inl ⟨by rfl, ?_⟩) hHeld ?_ ?_; rotate_left
                  ·
                   rintro w' ⟨s0, s1, s2, s3, s4, s5, s6, s7, s8, s9, s10, s11, s12, s13, s14, s15, s16, s17, s18, s19, s20, s21, s22, s23, s24, s25, s26, s27, s28, s29⟩; go_simp; with_reducible rfl
                  rotate_left
                  ·
                   simp only [Act.put, zzq, zzr, zzs, i64_w, i32_w]; rfl
                  refine pure_ (i := 19) (N := some 61) (v := ?_) (a' := ?_) (zzB 26 1048575) rfl rfl (any_of HT_.out (by kernel_rfl)) (fun _ _ _ h => h) (Or.inl ⟨by rfl, ?_⟩) ?_ ?_; rotate_left
                  ·
                   intro w'; go_simp; with_reducible rfl
                  rotate_left
                  ·
                   simp only [Act.put, zzq, zzr, zzs, i64_w, i32_w]; rfl
                  refine pure_ (i := 20) (N := some 62) (v := ?_) (a' := ?_) (zzB 26 2097151) rfl rfl (any_of HT_.out (by kernel_rfl)) (fun _ _ _ h => h) (Or.inl ⟨by rfl, ?_⟩) ?_ ?_; rotate_left
                  ·
                   intro w'; go_simp; with_reducible rfl
                  rotate_left
                  ·
                   simp only [Act.put, zzq, zzr, zzs, i64_w, i32_w]; rfl
                  refine take_ (i := 21) (N := some 63) (v := ?_) (a' := ?_) (zzB 26 4194303) rfl rfl (take_ofW HT_.out HW_.out (by kernel_rfl)) (fun _ _ _ h => h) (Or.inl ⟨by rfl, ?_⟩) hHeld ?_ ?_; rotate_left
                  ·
                   rintro w' ⟨s0, s1, s2, s3, s4, s5, s6, s7, s8, s9, s10, s11, s12, s13, s14, s15, s16, s17, s18, s19, s20, s21, s22, s23, s24, s25, s26, s27, s28, s29⟩; go_simp; with_reducible rfl
                  rotate_left
                  ·
                   simp only [Act.put, zzq, zzr, zzs, i64_w, i32_w]; rfl
                  refine pure_ (i := 22) (N := some 64) (v := ?_) (a' := ?_) (zzB 26 8388607) rfl rfl (any_of HT_.out (by kernel_rfl)) (fun _ _ _ h => h) (Or.inl ⟨by rfl, ?_⟩) ?_ ?_; rotate_left
                  ·
                   intro w'; go_simp; with_reducible rfl
                  rotate_left
                  ·
                   simp only [Act.put, zzq, zzr, zzs, i64_w, i32_w]; rfl
                  refine one_ (i := 23) (N := some 65) (zzB 26 16777215) rfl rfl (one_of HT_.out (by kernel_rfl)) (by decide) (fun K hK => ?_); refine value_ (w1 := ?_) (v := ?_) (by rfl) rfl ?_ ?_; rotate_left 2
                  ·
                   go_simp; constructor
                   ·
                    rfl
                   ·
                    rfl
                  refine hK.out _ _ ⟨(World.cell?_alloc_lt _ _ _ (zzn _ _ ((zzx HB.out hw377_0)))).trans ((zzx HB.out hw377_0)), (World.cell?_alloc_lt _ _ _ (zzn _ _ ((zzx HB.out hw377_1)))).trans ((zzx HB.out hw377_1)), (World.cell?_alloc_lt _ _ _ (zzn _ _ ((zzx HB.out hw377_2)))).trans ((zzx HB.out hw377_2)), (World.cell?_alloc_lt _ _ _ (zzn _ _ ((zzx HB.out hw377_3)))).trans ((zzx HB.out hw377_3)), (World.cell?_alloc_lt _ _ _ (zzn _ _ ((zzx HB.out hw377_4)))).trans ((zzx HB.out hw377_4)), (World.cell?_alloc_lt _ _ _ (zzn _ _ ((zzx HB.out hw377_5)))).trans ((zzx HB.out hw377_5)), (World.cell?_alloc_lt _ _ _ (zzn _ _ ((zzx HB.out hw378_0)))).trans ((zzx HB.out hw378_0)), (World.cell?_alloc_lt _ _ _ (zzn _ _ ((zzx HB.out hw378_1)))).trans ((zzx HB.out hw378_1)), (World.cell?_alloc_lt _ _ _ (zzn _ _ ((zzx HB.out hw378_2)))).trans ((zzx HB.out hw378_2)), (World.cell?_alloc_lt _ _ _ (zzn _ _ ((zzx HB.out hw378_3)))).trans ((zzx HB.out hw378_3)), (World.cell?_alloc_lt _ _ _ (zzn _ _ ((zzx HB.out hw378_4)))).trans ((zzx HB.out hw378_4)), (World.cell?_alloc_lt _ _ _ (zzn _ _ ((zzx HB.out hw378_5)))).trans ((zzx HB.out hw378_5)), (World.cell?_alloc_lt _ _ _ (zzn _ _ ((zzx HB.out hw379_0)))).trans ((zzx HB.out hw379_0)), (World.cell?_alloc_lt _ _ _ (zzn _ _ ((zzx HB.out hw379_1)))).trans ((zzx HB.out hw379_1)), (World.cell?_alloc_lt _ _ _ (zzn _ _ ((zzx HB.out hw379_2)))).trans ((zzx HB.out hw379_2)), (World.cell?_alloc_lt _ _ _ (zzn _ _ ((zzx HB.out hw379_3)))).trans ((zzx HB.out hw379_3)), (World.cell?_alloc_lt _ _ _ (zzn _ _ ((zzx HB.out hw379_4)))).trans ((zzx HB.out hw379_4)), (World.cell?_alloc_lt _ _ _ (zzn _ _ ((zzx HB.out hw379_5)))).trans ((zzx HB.out hw379_5)), (World.cell?_alloc_lt _ _ _ (zzn _ _ ((zzx HB.out hw380_0)))).trans ((zzx HB.out hw380_0)), (World.cell?_alloc_lt _ _ _ (zzn _ _ ((zzx HB.out hw380_1)))).trans ((zzx HB.out hw380_1)), (World.cell?_alloc_lt _ _ _ (zzn _ _ ((zzx HB.out hw380_2)))).trans ((zzx HB.out hw380_2)), (World.cell?_alloc_lt _ _ _ (zzn _ _ ((zzx HB.out hw380_3)))).trans ((zzx HB.out hw380_3)), (World.cell?_alloc_lt _ _ _ (zzn _ _ ((zzx HB.out hw380_4)))).trans ((zzx HB.out hw380_4)), (World.cell?_alloc_lt _ _ _ (zzn _ _ ((zzx HB.out hw380_5)))).trans ((zzx HB.out hw380_5)), (World.cell?_alloc_lt _ _ _ (zzn _ _ ((zzx HB.out hw381_0)))).trans ((zzx HB.out hw381_0)), (World.cell?_alloc_lt _ _ _ (zzn _ _ ((zzx HB.out hw381_1)))).trans ((zzx HB.out hw381_1)), (World.cell?_alloc_lt _ _ _ (zzn _ _ ((zzx HB.out hw381_2)))).trans ((zzx HB.out hw381_2)), (World.cell?_alloc_lt _ _ _ (zzn _ _ ((zzx HB.out hw381_3)))).trans ((zzx HB.out hw381_3)), (World.cell?_alloc_lt _ _ _ (zzn _ _ ((zzx HB.out hw381_4)))).trans ((zzx HB.out hw381_4)), (World.cell?_alloc_lt _ _ _ (zzn _ _ ((zzx HB.out hw381_5)))).trans ((zzx HB.out hw381_5))⟩ (fun hHeld => ?_); clear hK K; refine norm_ (a' := ?_) ?_ ?_; rotate_left
                  ·
                   show Act.put _ (some 65) _ = _; simp only [Act.put, zzq, zzr, zzs, i64_w, i32_w]; rfl
                  refine one_ (i := 24) (N := some 66) (zzB 26 33554431) rfl rfl (one_of HT_.out (by kernel_rfl)) (by decide) (fun K hK => ?_); refine Kd.R_append_step k46 (w0 := w) w.heap.size (by rfl) (.tmp 42) (.tmp 65) 42 46 (.agg #[(.int .i64 0), (.int .i64 0), (.int .i64 0)]) 24 rfl Try.underlying42 info46 rfl (by decide) (by omega) u3 x3_1 (⟨(rd_T27 l0 x4_1).f2, (rd_T34 ((rd_T27 l0 x4_1).f5) 0).f0, (rd_T34 ((rd_T27 l0 t374).f5) 0).f0⟩ : S46) [.int .i64 ((rd_T27 l0 x4_1).f2), .int .i64 ((rd_T34 ((rd_T27 l0 x4_1).f5) 0).f0), .int .i64 ((rd_T34 ((rd_T27 l0 t374).f5) 0).f0)] (fun _ => True) (fun _ => False) rfl rfl ?aP (fun _ hk => hk.elim) ?aF ?aO ?aB ?aS ?aL ?_; (case aP => exact k46_mkM _ _ _ (⟨(rd_T27 l0 x4_1).f2, (rd_T34 ((rd_T27 l0 x4_1).f5) 0).f0, (rd_T34 ((rd_T27 l0 t374).f5) 0).f0⟩ : S46)); (case aB => exact zzh1); (case aF => exact (fun _ _ => trivial)); (case aO => exact (by (with_reducible repeat (first | apply Kd.R_alloc | apply Kd.R_drewN | apply Kd.R_drew)); exact HO_3.out)); (case aS => exact (zzo zzh1)); (case aL => have := LMc29.out; omega); intro v383 w32 ho hb hg hat; rw [← Ny382.out] at ho; have n0_ := zzm (hb); have n1_ := zzm (ho); clear HB; clear HO_3; have HB := n0_; have HO384 := n1_; clear n0_ n1_; clear ho hb hg hat; refine hK.out _ _ ⟨(zzx HB.out hw377_0), (zzx HB.out hw377_1), (zzx HB.out hw377_2), (zzx HB.out hw377_3), (zzx HB.out hw377_4), (zzx HB.out hw377_5), (zzx HB.out hw378_0), (zzx HB.out hw378_1), (zzx HB.out hw378_2), (zzx HB.out hw378_3), (zzx HB.out hw378_4), (zzx HB.out hw378_5), (zzx HB.out hw379_0), (zzx HB.out hw379_1), (zzx HB.out hw379_2), (zzx HB.out hw379_3), (zzx HB.out hw379_4), (zzx HB.out hw379_5), (zzx HB.out hw380_0), (zzx HB.out hw380_1), (zzx HB.out hw380_2), (zzx HB.out hw380_3), (zzx HB.out hw380_4), (zzx HB.out hw380_5), (zzx HB.out hw381_0), (zzx HB.out hw381_1), (zzx HB.out hw381_2), (zzx HB.out hw381_3), (zzx HB.out hw381_4), (zzx HB.out hw381_5)⟩ (fun hHeld => ?_); clear hK K; refine norm_ (a' := ?_) ?_ ?_; rotate_left
                  ·
                   show Act.put _ (some 66) _ = _; simp only [Act.put, zzq, zzr, zzs, i64_w, i32_w]; rfl
                  refine pure_ (i := 25) (N := some 3) (v := ?_) (a' := ?_) (zzB 26 67108863) rfl rfl (any_of HT_.out (by kernel_rfl)) (fun _ _ _ h => h) (Or.inl ⟨by rfl, ?_⟩) ?_ ?_; rotate_left
                  ·
                   intro w'; go_simp; with_reducible rfl
                  rotate_left
                  ·
                   simp only [Act.put, zzq, zzr, zzs, i64_w, i32_w]; rfl
                  refine done_ (done_of HT_.out (by kernel_rfl)) ?_; try go_wp2
                  go_roundg kj8
                  case measure => have := HK1.out; have := HJ3.out; have := HJ8.out; omega
                  case rel => exact ⟨(y382), (wrap64 (x4_1 + 1)), (by first | rfl | (simp; done) | (simp [*]; done)), H', ⟨by have := HK1.out; have := HJ3.out; have := HJ8.out; omega⟩, ⟨by (with_reducible repeat (first | apply Kd.R_alloc | apply Kd.R_drewN | apply Kd.R_drew)); exact HO384.out⟩, ⟨zzh1⟩⟩
                 ·
                  rw [if_neg c29] at H; exact absurd H (by simp)
                ·
                 rw [if_neg c28] at H; exact absurd H (by simp)
               ·
                rw [if_neg c27] at H; exact absurd H (by simp)
              ·
               rw [if_neg c26] at H; exact absurd H (by simp)
             ·
              rw [if_neg c25] at H; exact absurd H (by simp)
           ·
            rw [if_neg c21] at H; exact absurd H (by simp)
          ·
           rw [if_neg c20] at H; exact absurd H (by simp)
         ·
          rw [if_neg c19] at H; have c19b0 : decide (0 ≤ t374) = false := decide_eq_false c19; clear c19; have H' := zzm H; clear H; go_wp2_with (first | ((with_reducible refine gate_callee (f := 68) rfl ?_); refine goesL_ (some 31) rfl rfl Try.func68 (by kernel_rfl) rfl #[.slice A0 l0.length c0, .int .i64 x4_1] rfl (by (try simp only [List.map_toArray, List.map_cons, List.map_nil]); first | done | rfl | (simp only [List.length_drop, List.length_take]; rfl)) ?_; (with_reducible refine (spec_l22Mark.calls kj8 _ _ l0 x4_1 t374 _ ?side1 ?side2 A18.out).mono ?_); (case side1 => repeat (first | exact (Kd.C_below HR0.out HB.out) | (with_reducible refine Kd.C_alloc ?_ _) | (with_reducible refine Kd.C_drewN ?_ _) | (with_reducible refine Kd.C_drew ?_))); (case side2 => exact HC0.out); rintro e w' ⟨rfl, ⟨nd, rfl⟩⟩; refine ⟨_, rfl, ?_⟩)); go_roundg kj8
          case measure => have := HK1.out; have := HJ3.out; have := HJ8.out; omega
          case rel => exact ⟨(x3_1), (wrap64 (x4_1 + 1)), (by first | rfl | (simp; done) | (simp [*]; done)), H', ⟨by have := HK1.out; have := HJ3.out; have := HJ8.out; omega⟩, ⟨by (with_reducible repeat (first | apply Kd.R_alloc | apply Kd.R_drewN | apply Kd.R_drew)); exact HO_3.out⟩, ⟨zzh1⟩⟩
     ·
      replace c8 := Bool.eq_false_iff.mpr c8; subst c8; have H1 : (some x3_1) = some r := by rw [if_neg (show ¬ (false = true) by decide)] at H; exact H
      clear H; have H := H1; clear H1; obtain rfl := Option.some.inj H; go_wp2; go_ret; exact ⟨_, by first | rfl | (simp [errW_none, errW_some] <;> rfl) | (simp [*, errW_none, errW_some] <;> rfl), by (with_reducible repeat (first | apply Kd.R_alloc | apply Kd.R_drewN | apply Kd.R_drew)); exact HO_3.out, zzh1⟩
end Go.Proofs.Yticpnjhkdfdkkaa.T
namespace Go.Proofs.Yticpnjhkdfdkkaa.T
open Go.RowKit Go.Proofs.YticpnjhkdfdkkaaW.PrintWords Go.Proofs.YticpnjhkdfdkkaaW.PrintLast Go.Proofs.YticpnjhkdfdkkaaW.PrintMore
attribute [local go_sem] max2_int max_two
set_option linter.unusedVariables false
set_option linter.unusedSimpArgs false
theorem eqA46 (d : Nat) (w : World) (x0 y0 : Int) (x1 y1 : Int) (x2 y2 : Int) :
  (Op.equalIn (d + 2) 46 (.agg #[.int .i64 x0, .int .i64 x1, .int .i64 x2]) (.agg #[.int .i64 y0, .int .i64 y1, .int .i64 y2])).run Try.prog w = .ok (x0 == y0 && (x1 == y1 && (x2 == y2))) w := by
 refine eqA_of Try.underlying46 (by kernel_rfl) ?_; refine eqf_cons (by rfl) (by go_simp; rfl) (by go_simp; rfl) (by go_simp) ?_; refine eqf_cons (by rfl) (by go_simp; rfl) (by go_simp; rfl) (by go_simp) ?_; exact eqf_last (by rfl) (by go_simp; rfl) (by go_simp; rfl) (by go_simp)
end Go.Proofs.Yticpnjhkdfdkkaa.T
namespace Go.Proofs.Yticpnjhkdfdkkaa.T
open Go.RowKit Go.Proofs.YticpnjhkdfdkkaaW.PrintWords Go.Proofs.YticpnjhkdfdkkaaW.PrintLast Go.Proofs.YticpnjhkdfdkkaaW.PrintMore
attribute [local go_sem] max2_int max_two
set_option linter.unusedVariables false
set_option linter.unusedSimpArgs false
attribute [local go_sem high] eqA46
def laws_sameUndone.l0 : Nat → List (S46) → List (S46) → Int → Option (Bool)
 | 0, _, _, _ => none
 | k + 1, x0, x1, x5 => if x5 < (x0.length : Int) then (if 0 ≤ x5 then (if x5 < (x1.length : Int) then (if (!(((rd_T46 x0 x5).f0) == ((rd_T46 x1 x5).f0)) || (!(((rd_T46 x0 x5).f1) == ((rd_T46 x1 x5).f1)) || (!(((rd_T46 x0 x5).f2) == ((rd_T46 x1 x5).f2))))) = true then (some false) else (laws_sameUndone.l0 k x0 x1 (wrap64 (x5 + 1)))) else (none)) else (none)) else (some true)
def laws_sameUndone.f (k : Nat) (l0 : List (S46)) (l1 : List (S46)) : Option (Bool) := if (l0.length : Int) = (l1.length : Int) then (laws_sameUndone.l0 k l0 l1 0) else (some false)
set_option maxHeartbeats 8000000 in
set_option maxRecDepth 100000 in
theorem laws_sameUndone.calls (k : Nat) (A0 : Option Addr) (c0 : Nat) (l0 : List (S46)) (A1 : Option Addr) (c1 : Nat) (l1 : List (S46)) (r : Bool) (w : World) (hr0 : Kd.C k46 w A0 l0.length l0) (hc0 : l0.length ≤ c0) (hr1 : Kd.C k46 w A1 l1.length l1) (hc1 : l1.length ≤ c1) (h : laws_sameUndone.f k l0 l1 = some r) :
  Calls Try.prog 34 #[.slice A0 l0.length c0, .slice A1 l1.length c1] w fun e w' => e = .returned (.bool r) ∧ Drawn0 w w' := by
 have hu46 := Try.underlying46; have HR0 := zzm hr0; have HC0 := zzm hc0; clear hr0 hc0; have HR1 := zzm hr1; have HC1 := zzm hc1; clear hr1 hc1; have H : (if (l0.length : Int) = (l1.length : Int) then (laws_sameUndone.l0 k l0 l1 0) else (some false)) = some r := h; clear h; by_cases c3 : (l0.length : Int) = (l1.length : Int)
 ·
  rw [if_pos c3] at H; have c3b0 : ((l0.length : Int) == (l1.length : Int)) = true := beq_iff_eq.mpr c3; have c3b1 : ((l0.length : Int) != (l1.length : Int)) = false := bne_eq_false_iff_eq.mpr c3; have c3b2 : (l0.length == l1.length) = true := by first | simpa using c3 | (simp at c3 ⊢; omega)
  clear c3; have H' := zzm H; clear H; go_enter Try.func34, Try.ntmps34; go_wp2; repeat (go_quiet (fail); try go_wp2)
  go_loopg [5] k (fun kq v5 w' => ∃ (x5_1 : Int), v5 = .int .i64 x5_1 ∧ Aside0 (laws_sameUndone.l0 kq l0 l1 x5_1 = some r) ∧ Aside0 (kq ≤ k) ∧ Drawn0 w w')
  case atStart => exact ⟨(0), (by first | rfl | (simp; done) | (simp [*]; done)), H', ⟨Nat.le_refl _⟩, by repeat (first | exact Drawn0.refl _ | apply Drawn0.step)⟩
  case round =>
   clear H'; try clear c1
   try clear p2
   try clear c3
   try clear c3b0
   try clear c3b1
   try clear c3b2
   obtain ⟨x5_1, rfl, HA, HK1, ⟨m1, rfl⟩⟩ := hrel; cases gk with
   | zero => exact absurd HA.out (by simp [laws_sameUndone.l0])
   | succ k1 =>
    have H := HA.out; clear HA; simp only [laws_sameUndone.l0] at H; by_cases c4 : x5_1 < (l0.length : Int)
    ·
     rw [if_pos c4] at H; have c4b0 : decide (x5_1 < (l0.length : Int)) = true := decide_eq_true c4; clear c4; by_cases c5 : 0 ≤ x5_1
     ·
      rw [if_pos c5] at H; have c5b0 : decide (0 ≤ x5_1) = true := decide_eq_true c5; clear c5; by_cases c6 : x5_1 < (l1.length : Int)
      ·
       rw [if_pos c6] at H; have c6b0 : decide (x5_1 < (l1.length : Int)) = true := decide_eq_true c6; clear c6; by_cases c7 : (!(((rd_T46 l0 x5_1).f0) == ((rd_T46 l1 x5_1).f0)) || (!(((rd_T46 l0 x5_1).f1) == ((rd_T46 l1 x5_1).f1)) || (!(((rd_T46 l0 x5_1).f2) == ((rd_T46 l1 x5_1).f2))))) = true
       ·
        rw [if_pos c7] at H; have c7b0 : (!(((rd_T46 l0 x5_1).f0) == ((rd_T46 l1 x5_1).f0)) || (!(((rd_T46 l0 x5_1).f1) == ((rd_T46 l1 x5_1).f1)) || (!(((rd_T46 l0 x5_1).f2) == ((rd_T46 l1 x5_1).f2))))) = true := c7; clear c7; obtain rfl := Option.some.inj H; have p385 : 0 ≤ (x5_1 : Int) := zzt; have q385 : x5_1 < (l0.length : Int) := zzt; obtain ⟨ad385, e385, hx385_0, hx385_1, hx385_2⟩ := at_T46 HR0.out x5_1 p385 q385; cases e385; replace p385 := eq_true p385; replace q385 := eq_true q385; have p386 : 0 ≤ (x5_1 : Int) := zzt; have q386 : x5_1 < (l1.length : Int) := zzt; obtain ⟨ad386, e386, hx386_0, hx386_1, hx386_2⟩ := at_T46 HR1.out x5_1 p386 q386; cases e386; replace p386 := eq_true p386; replace q386 := eq_true q386; go_wp2; repeat (go_quiet (fail); try go_wp2)
        go_ret; exact ⟨by first | rfl | (simp; done) | (simp [*]; done), by repeat (first | exact Drawn0.refl _ | apply Drawn0.step)⟩
       ·
        rw [if_neg c7] at H; have c7b0 : (!(((rd_T46 l0 x5_1).f0) == ((rd_T46 l1 x5_1).f0)) || (!(((rd_T46 l0 x5_1).f1) == ((rd_T46 l1 x5_1).f1)) || (!(((rd_T46 l0 x5_1).f2) == ((rd_T46 l1 x5_1).f2))))) = false := by simpa using c7
        clear c7; have H' := zzm H; clear H; have p385 : 0 ≤ (x5_1 : Int) := zzt; have q385 : x5_1 < (l0.length : Int) := zzt; obtain ⟨ad385, e385, hx385_0, hx385_1, hx385_2⟩ := at_T46 HR0.out x5_1 p385 q385; cases e385; replace p385 := eq_true p385; replace q385 := eq_true q385; have p386 : 0 ≤ (x5_1 : Int) := zzt; have q386 : x5_1 < (l1.length : Int) := zzt; obtain ⟨ad386, e386, hx386_0, hx386_1, hx386_2⟩ := at_T46 HR1.out x5_1 p386 q386; cases e386; replace p386 := eq_true p386; replace q386 := eq_true q386; go_wp2; repeat (go_quiet (fail); try go_wp2)
        go_roundg k1
        case measure => have := HK1.out; omega
        case rel => exact ⟨(wrap64 (x5_1 + 1)), (by first | rfl | (simp; done) | (simp [*]; done)), H', ⟨by have := HK1.out; omega⟩, by repeat (first | exact Drawn0.refl _ | apply Drawn0.step)⟩
      ·
       rw [if_neg c6] at H; exact absurd H (by simp)
     ·
      rw [if_neg c5] at H; exact absurd H (by simp)
    ·
     rw [if_neg c4] at H; have c4b0 : decide (x5_1 < (l0.length : Int)) = false := decide_eq_false c4; clear c4; obtain rfl := Option.some.inj H; go_wp2; repeat (go_quiet (fail); try go_wp2)
     go_ret; exact ⟨by first | rfl | (simp; done) | (simp [*]; done), by repeat (first | exact Drawn0.refl _ | apply Drawn0.step)⟩
 ·
  rw [if_neg c3] at H; have c3b0 : ((l0.length : Int) == (l1.length : Int)) = false := beq_eq_false_iff_ne.mpr c3; have c3b1 : ((l0.length : Int) != (l1.length : Int)) = true := bne_iff_ne.mpr c3; have c3b2 : (l0.length == l1.length) = false := by first | simpa using c3 | (simp at c3 ⊢; omega)
  obtain rfl := Option.some.inj H; go_enter Try.func34, Try.ntmps34; go_wp2; repeat (go_quiet (fail); try go_wp2)
  go_ret; exact ⟨by first | rfl | (simp; done) | (simp [*]; done), by repeat (first | exact Drawn0.refl _ | apply Drawn0.step)⟩
end Go.Proofs.Yticpnjhkdfdkkaa.T
namespace Go.Proofs.Yticpnjhkdfdkkaa.T
open Go.RowKit Go.Proofs.YticpnjhkdfdkkaaW.PrintWords Go.Proofs.YticpnjhkdfdkkaaW.PrintLast Go.Proofs.YticpnjhkdfdkkaaW.PrintMore
attribute [local go_sem] max2_int max_two
set_option linter.unusedVariables false
set_option linter.unusedSimpArgs false
mutual
def laws_FnUndoneOrder.l0 : Nat → List (S46) → Int → Option (Bool)
 | 0, _, _ => none
 | k + 1, x4, x6 => if x6 < (x4.length : Int) then (laws_FnUndoneOrder.l1 k x4 x6 0) else (some true)
def laws_FnUndoneOrder.l1 : Nat → List (S46) → Int → Int → Option (Bool)
 | 0, _, _, _ => none
 | k + 1, x4, x6, x7 => if x7 < x6 then (if 0 ≤ x7 then (if x7 < (x4.length : Int) then (if 0 ≤ x6 then (if x6 < (x4.length : Int) then (if ((rd_T46 x4 x7).f1) ≥ ((rd_T46 x4 x6).f1) then (some false) else (if ((rd_T46 x4 x7).f0) = ((rd_T46 x4 x6).f0) then (if ((rd_T46 x4 x7).f2) ≥ ((rd_T46 x4 x6).f1) then (some false) else (laws_FnUndoneOrder.l1 k x4 x6 (wrap64 (x7 + 1)))) else (laws_FnUndoneOrder.l1 k x4 x6 (wrap64 (x7 + 1))))) else (none)) else (none)) else (none)) else (none)) else (laws_FnUndoneOrder.l0 k x4 (wrap64 (x6 + 1)))
end
def laws_FnUndoneOrder.f (k : Nat) (l0 : List Int) : Option (Bool) := if (l0.length : Int) > 1048576 then (some true) else ((spec_DrawUndoneOf.f k l0).bind fun t435 => ((impl_UndoneOf.f k t435).bind fun t438 => ((spec_UndoneOf.f k t435).bind fun t441 => ((laws_sameUndone.f k t438 t441).bind fun t444 => (if t444 = true then (laws_FnUndoneOrder.l0 k t438 0) else ((laws_sameUndone.f k t438 t441).bind fun t445 => (some t445)))))))
set_option maxHeartbeats 8000000 in
set_option maxRecDepth 100000 in
theorem laws_FnUndoneOrder.calls (k : Nat) (A0 : Option Addr) (c0 : Nat) (l0 : List Int) (r : Bool) (w : World) (hr0 : Kd.C (Kd.int .u8) w A0 l0.length l0) (hc0 : l0.length ≤ c0) (h : laws_FnUndoneOrder.f k l0 = some r) :
  Calls Try.prog 9 #[.slice A0 l0.length c0] w fun e w' => e = .returned (.bool r) ∧ Below w.heap.size w w' := by
 have HR0 := zzm hr0; have HC0 := zzm hc0; clear hr0 hc0; have HB := zzm (Below.refl w.heap.size w); have H : (if (l0.length : Int) > 1048576 then (some true) else ((spec_DrawUndoneOf.f k l0).bind fun t435 => ((impl_UndoneOf.f k t435).bind fun t438 => ((spec_UndoneOf.f k t435).bind fun t441 => ((laws_sameUndone.f k t438 t441).bind fun t444 => (if t444 = true then (laws_FnUndoneOrder.l0 k t438 0) else ((laws_sameUndone.f k t438 t441).bind fun t445 => (some t445)))))))) = some r := h; clear h; by_cases c2 : (l0.length : Int) > 1048576
 ·
  rw [if_pos c2] at H; have c2b0 : decide (1048576 < (l0.length : Int)) = true := decide_eq_true c2; have c2b1 : decide (1048576 < l0.length) = true := decide_eq_true (by omega); clear c2; obtain rfl := Option.some.inj H; go_enter Try.func9, Try.ntmps9; go_wp2; repeat (go_quiet (fail); try go_wp2)
  go_ret; exact ⟨by first | rfl | (simp [errW_none, errW_some] <;> rfl) | (simp [*, errW_none, errW_some] <;> rfl), zzh1⟩
 ·
  rw [if_neg c2] at H; have c2b0 : decide (1048576 < (l0.length : Int)) = false := decide_eq_false c2; have c2b1 : decide (1048576 < l0.length) = false := decide_eq_false (by omega); clear c2; replace H := Option.bind_eq_some_iff.mp H; obtain ⟨t435, A30, H⟩ := H; replace H : ((impl_UndoneOf.f k t435).bind fun t438 => ((spec_UndoneOf.f k t435).bind fun t441 => ((laws_sameUndone.f k t438 t441).bind fun t444 => (if t444 = true then (laws_FnUndoneOrder.l0 k t438 0) else ((laws_sameUndone.f k t438 t441).bind fun t445 => (some t445)))))) = some r := H; have A3 := zzm A30; clear A30; replace H := Option.bind_eq_some_iff.mp H; obtain ⟨t438, A40, H⟩ := H; replace H : ((spec_UndoneOf.f k t435).bind fun t441 => ((laws_sameUndone.f k t438 t441).bind fun t444 => (if t444 = true then (laws_FnUndoneOrder.l0 k t438 0) else ((laws_sameUndone.f k t438 t441).bind fun t445 => (some t445))))) = some r := H; have A4 := zzm A40; clear A40; replace H := Option.bind_eq_some_iff.mp H; obtain ⟨t441, A50, H⟩ := H; replace H : ((laws_sameUndone.f k t438 t441).bind fun t444 => (if t444 = true then (laws_FnUndoneOrder.l0 k t438 0) else ((laws_sameUndone.f k t438 t441).bind fun t445 => (some t445)))) = some r := H; have A5 := zzm A50; clear A50; replace H := Option.bind_eq_some_iff.mp H; obtain ⟨t444, A60, H⟩ := H; replace H : (if t444 = true then (laws_FnUndoneOrder.l0 k t438 0) else ((laws_sameUndone.f k t438 t441).bind fun t445 => (some t445))) = some r := H; have A6 := zzm A60; clear A60; by_cases c7 : t444 = true
  ·
   subst c7; have H1 : (laws_FnUndoneOrder.l0 k t438 0) = some r := by rw [if_pos rfl] at H; exact H
   clear H; have H := H1; clear H1; have H' := zzm H; clear H; go_enter Try.func9, Try.ntmps9; go_wp2_with (first | (go_at_call 31; (with_reducible refine (spec_DrawUndoneOf.calls k _ _ l0 t435 _ ?side1 ?side2 A3.out).mono ?_); (case side1 => repeat (first | exact HR0.out | (with_reducible refine Kd.C_alloc ?_ _) | (with_reducible refine Kd.C_drewN ?_ _) | (with_reducible refine Kd.C_drew ?_))); (case side2 => exact HC0.out); rintro e w8 ⟨v436, rfl, ho0, hb⟩; have n0_ := zzm (Kd.N_lower (Kd.N_mono (ok' := fun k_ => True) ho0 (fun k_ hk_ => trivial)) (zzo zzh1)); have n1_ := zzm (zzp zzh1 hb); clear HB; have HO437 := n0_; have HB := n1_; clear n0_ n1_; (try clear hb); (try clear hb2); (try clear hk); (try clear hi); (try clear ho0); obtain ⟨Ao9, co9, eo9⟩ := Kd.N_slice HO437.out; subst eo9) | (go_at_call 32; (with_reducible refine (impl_UndoneOf.calls k _ _ t435 t438 _ ?side1 ?side2 A4.out).mono ?_); (case side1 => repeat (first | exact (Kd.N_reads' HO437.out).2.2 | (with_reducible refine Kd.C_alloc ?_ _) | (with_reducible refine Kd.C_drewN ?_ _) | (with_reducible refine Kd.C_drew ?_))); (case side2 => exact (Kd.N_reads' HO437.out).2.1); rintro e w10 ⟨v439, rfl, ho0, hb⟩; have n0_ := zzm (Kd.N_elder' (by (with_reducible repeat (first | apply Kd.N_alloc | apply Kd.N_drewN | apply Kd.N_drew)); exact HO437.out) (Kd.R_base ho0) hb); have n1_ := zzm (Kd.R_lower ho0 (zzo zzh1)); have n2_ := zzm (zzp zzh1 hb); clear HO437 HB; have HO437 := n0_; have HO440 := n1_; have HB := n2_; clear n0_ n1_ n2_; (try clear hb); (try clear hb2); (try clear hk); (try clear hi); (try clear ho0)) | (go_at_call 33; (with_reducible refine (spec_UndoneOf.calls k _ _ t435 t441 _ ?side1 ?side2 A5.out).mono ?_); (case side1 => repeat (first | exact (Kd.N_reads' HO437.out).2.2 | (with_reducible refine Kd.C_alloc ?_ _) | (with_reducible refine Kd.C_drewN ?_ _) | (with_reducible refine Kd.C_drew ?_))); (case side2 => exact (Kd.N_reads' HO437.out).2.1); rintro e w11 ⟨v442, rfl, ho0, hb⟩; have n0_ := zzm (Kd.N_elder' (by (with_reducible repeat (first | apply Kd.N_alloc | apply Kd.N_drewN | apply Kd.N_drew)); exact HO437.out) (Kd.R_base ho0) hb); have n1_ := zzm (Kd.R_elder' (by (with_reducible repeat (first | apply Kd.R_alloc | apply Kd.R_drewN | apply Kd.R_drew)); exact HO440.out) (Kd.R_base ho0) hb); have n2_ := zzm (Kd.R_lower (Kd.R_new' ho0 (Kd.R_lt (by (with_reducible repeat (first | apply Kd.R_alloc | apply Kd.R_drewN | apply Kd.R_drew)); exact HO440.out))) (zzo zzh1)); have n3_ := zzm (zzp zzh1 hb); clear HO437 HO440 HB; have HO437 := n0_; have HO440 := n1_; have HO443 := n2_; have HB := n3_; clear n0_ n1_ n2_ n3_; (try clear hb); (try clear hb2); (try clear hk); (try clear hi); (try clear ho0); obtain ⟨Ao12, co12, eo12⟩ := Kd.R_slice HO440.out; subst eo12; obtain ⟨Ao13, co13, eo13⟩ := Kd.R_slice HO443.out; subst eo13) | (go_at_call 34; (with_reducible refine (laws_sameUndone.calls k _ _ t438 _ _ t441 true _ ?side1 ?side2 ?side3 ?side4 A6.out).mono ?_); (case side1 => repeat (first | exact (Kd.R_reads' HO440.out).2.2 | (with_reducible refine Kd.C_alloc ?_ _) | (with_reducible refine Kd.C_drewN ?_ _) | (with_reducible refine Kd.C_drew ?_))); (case side2 => exact (Kd.R_reads' HO440.out).2.1); (case side3 => repeat (first | exact (Kd.R_reads' HO443.out).2.2 | (with_reducible refine Kd.C_alloc ?_ _) | (with_reducible refine Kd.C_drewN ?_ _) | (with_reducible refine Kd.C_drew ?_))); (case side4 => exact (Kd.R_reads' HO443.out).2.1); rintro e w' ⟨rfl, ⟨nd, rfl⟩⟩; (try first | exact ⟨rfl, _, World.drewN_drewN _ _ _⟩ | exact ⟨rfl, _, Eq.trans (World.drewN_drewN _ _ _) (congrArg (World.drewN _) (Nat.add_assoc _ _ _))⟩))); repeat (go_quiet (first | (go_at_call 31; (with_reducible refine (spec_DrawUndoneOf.calls k _ _ l0 t435 _ ?side1 ?side2 A3.out).mono ?_); (case side1 => repeat (first | exact HR0.out | (with_reducible refine Kd.C_alloc ?_ _) | (with_reducible refine Kd.C_drewN ?_ _) | (with_reducible refine Kd.C_drew ?_))); (case side2 => exact HC0.out); rintro e w8 ⟨v436, rfl, ho0, hb⟩; have n0_ := zzm (Kd.N_lower (Kd.N_mono (ok' := fun k_ => True) ho0 (fun k_ hk_ => trivial)) (zzo zzh1)); have n1_ := zzm (zzp zzh1 hb); clear HB; have HO437 := n0_; have HB := n1_; clear n0_ n1_; (try clear hb); (try clear hb2); (try clear hk); (try clear hi); (try clear ho0); obtain ⟨Ao9, co9, eo9⟩ := Kd.N_slice HO437.out; subst eo9) | (go_at_call 32; (with_reducible refine (impl_UndoneOf.calls k _ _ t435 t438 _ ?side1 ?side2 A4.out).mono ?_); (case side1 => repeat (first | exact (Kd.N_reads' HO437.out).2.2 | (with_reducible refine Kd.C_alloc ?_ _) | (with_reducible refine Kd.C_drewN ?_ _) | (with_reducible refine Kd.C_drew ?_))); (case side2 => exact (Kd.N_reads' HO437.out).2.1); rintro e w10 ⟨v439, rfl, ho0, hb⟩; have n0_ := zzm (Kd.N_elder' (by (with_reducible repeat (first | apply Kd.N_alloc | apply Kd.N_drewN | apply Kd.N_drew)); exact HO437.out) (Kd.R_base ho0) hb); have n1_ := zzm (Kd.R_lower ho0 (zzo zzh1)); have n2_ := zzm (zzp zzh1 hb); clear HO437 HB; have HO437 := n0_; have HO440 := n1_; have HB := n2_; clear n0_ n1_ n2_; (try clear hb); (try clear hb2); (try clear hk); (try clear hi); (try clear ho0)) | (go_at_call 33; (with_reducible refine (spec_UndoneOf.calls k _ _ t435 t441 _ ?side1 ?side2 A5.out).mono ?_); (case side1 => repeat (first | exact (Kd.N_reads' HO437.out).2.2 | (with_reducible refine Kd.C_alloc ?_ _) | (with_reducible refine Kd.C_drewN ?_ _) | (with_reducible refine Kd.C_drew ?_))); (case side2 => exact (Kd.N_reads' HO437.out).2.1); rintro e w11 ⟨v442, rfl, ho0, hb⟩; have n0_ := zzm (Kd.N_elder' (by (with_reducible repeat (first | apply Kd.N_alloc | apply Kd.N_drewN | apply Kd.N_drew)); exact HO437.out) (Kd.R_base ho0) hb); have n1_ := zzm (Kd.R_elder' (by (with_reducible repeat (first | apply Kd.R_alloc | apply Kd.R_drewN | apply Kd.R_drew)); exact HO440.out) (Kd.R_base ho0) hb); have n2_ := zzm (Kd.R_lower (Kd.R_new' ho0 (Kd.R_lt (by (with_reducible repeat (first | apply Kd.R_alloc | apply Kd.R_drewN | apply Kd.R_drew)); exact HO440.out))) (zzo zzh1)); have n3_ := zzm (zzp zzh1 hb); clear HO437 HO440 HB; have HO437 := n0_; have HO440 := n1_; have HO443 := n2_; have HB := n3_; clear n0_ n1_ n2_ n3_; (try clear hb); (try clear hb2); (try clear hk); (try clear hi); (try clear ho0); obtain ⟨Ao12, co12, eo12⟩ := Kd.R_slice HO440.out; subst eo12; obtain ⟨Ao13, co13, eo13⟩ := Kd.R_slice HO443.out; subst eo13) | (go_at_call 34; (with_reducible refine (laws_sameUndone.calls k _ _ t438 _ _ t441 true _ ?side1 ?side2 ?side3 ?side4 A6.out).mono ?_); (case side1 => repeat (first | exact (Kd.R_reads' HO440.out).2.2 | (with_reducible refine Kd.C_alloc ?_ _) | (with_reducible refine Kd.C_drewN ?_ _) | (with_reducible refine Kd.C_drew ?_))); (case side2 => exact (Kd.R_reads' HO440.out).2.1); (case side3 => repeat (first | exact (Kd.R_reads' HO443.out).2.2 | (with_reducible refine Kd.C_alloc ?_ _) | (with_reducible refine Kd.C_drewN ?_ _) | (with_reducible refine Kd.C_drew ?_))); (case side4 => exact (Kd.R_reads' HO443.out).2.1); rintro e w' ⟨rfl, ⟨nd, rfl⟩⟩; (try first | exact ⟨rfl, _, World.drewN_drewN _ _ _⟩ | exact ⟨rfl, _, Eq.trans (World.drewN_drewN _ _ _) (congrArg (World.drewN _) (Nat.add_assoc _ _ _))⟩))); try go_wp2_with (first | (go_at_call 31; (with_reducible refine (spec_DrawUndoneOf.calls k _ _ l0 t435 _ ?side1 ?side2 A3.out).mono ?_); (case side1 => repeat (first | exact HR0.out | (with_reducible refine Kd.C_alloc ?_ _) | (with_reducible refine Kd.C_drewN ?_ _) | (with_reducible refine Kd.C_drew ?_))); (case side2 => exact HC0.out); rintro e w8 ⟨v436, rfl, ho0, hb⟩; have n0_ := zzm (Kd.N_lower (Kd.N_mono (ok' := fun k_ => True) ho0 (fun k_ hk_ => trivial)) (zzo zzh1)); have n1_ := zzm (zzp zzh1 hb); clear HB; have HO437 := n0_; have HB := n1_; clear n0_ n1_; (try clear hb); (try clear hb2); (try clear hk); (try clear hi); (try clear ho0); obtain ⟨Ao9, co9, eo9⟩ := Kd.N_slice HO437.out; subst eo9) | (go_at_call 32; (with_reducible refine (impl_UndoneOf.calls k _ _ t435 t438 _ ?side1 ?side2 A4.out).mono ?_); (case side1 => repeat (first | exact (Kd.N_reads' HO437.out).2.2 | (with_reducible refine Kd.C_alloc ?_ _) | (with_reducible refine Kd.C_drewN ?_ _) | (with_reducible refine Kd.C_drew ?_))); (case side2 => exact (Kd.N_reads' HO437.out).2.1); rintro e w10 ⟨v439, rfl, ho0, hb⟩; have n0_ := zzm (Kd.N_elder' (by (with_reducible repeat (first | apply Kd.N_alloc | apply Kd.N_drewN | apply Kd.N_drew)); exact HO437.out) (Kd.R_base ho0) hb); have n1_ := zzm (Kd.R_lower ho0 (zzo zzh1)); have n2_ := zzm (zzp zzh1 hb); clear HO437 HB; have HO437 := n0_; have HO440 := n1_; have HB := n2_; clear n0_ n1_ n2_; (try clear hb); (try clear hb2); (try clear hk); (try clear hi); (try clear ho0)) | (go_at_call 33; (with_reducible refine (spec_UndoneOf.calls k _ _ t435 t441 _ ?side1 ?side2 A5.out).mono ?_); (case side1 => repeat (first | exact (Kd.N_reads' HO437.out).2.2 | (with_reducible refine Kd.C_alloc ?_ _) | (with_reducible refine Kd.C_drewN ?_ _) | (with_reducible refine Kd.C_drew ?_))); (case side2 => exact (Kd.N_reads' HO437.out).2.1); rintro e w11 ⟨v442, rfl, ho0, hb⟩; have n0_ := zzm (Kd.N_elder' (by (with_reducible repeat (first | apply Kd.N_alloc | apply Kd.N_drewN | apply Kd.N_drew)); exact HO437.out) (Kd.R_base ho0) hb); have n1_ := zzm (Kd.R_elder' (by (with_reducible repeat (first | apply Kd.R_alloc | apply Kd.R_drewN | apply Kd.R_drew)); exact HO440.out) (Kd.R_base ho0) hb); have n2_ := zzm (Kd.R_lower (Kd.R_new' ho0 (Kd.R_lt (by (with_reducible repeat (first | apply Kd.R_alloc | apply Kd.R_drewN | apply Kd.R_drew)); exact HO440.out))) (zzo zzh1)); have n3_ := zzm (zzp zzh1 hb); clear HO437 HO440 HB; have HO437 := n0_; have HO440 := n1_; have HO443 := n2_; have HB := n3_; clear n0_ n1_ n2_ n3_; (try clear hb); (try clear hb2); (try clear hk); (try clear hi); (try clear ho0); obtain ⟨Ao12, co12, eo12⟩ := Kd.R_slice HO440.out; subst eo12; obtain ⟨Ao13, co13, eo13⟩ := Kd.R_slice HO443.out; subst eo13) | (go_at_call 34; (with_reducible refine (laws_sameUndone.calls k _ _ t438 _ _ t441 true _ ?side1 ?side2 ?side3 ?side4 A6.out).mono ?_); (case side1 => repeat (first | exact (Kd.R_reads' HO440.out).2.2 | (with_reducible refine Kd.C_alloc ?_ _) | (with_reducible refine Kd.C_drewN ?_ _) | (with_reducible refine Kd.C_drew ?_))); (case side2 => exact (Kd.R_reads' HO440.out).2.1); (case side3 => repeat (first | exact (Kd.R_reads' HO443.out).2.2 | (with_reducible refine Kd.C_alloc ?_ _) | (with_reducible refine Kd.C_drewN ?_ _) | (with_reducible refine Kd.C_drew ?_))); (case side4 => exact (Kd.R_reads' HO443.out).2.1); rintro e w' ⟨rfl, ⟨nd, rfl⟩⟩; (try first | exact ⟨rfl, _, World.drewN_drewN _ _ _⟩ | exact ⟨rfl, _, Eq.trans (World.drewN_drewN _ _ _) (congrArg (World.drewN _) (Nat.add_assoc _ _ _))⟩))))
   go_loopg [6] k (fun kq v6 w' => ∃ (x6_1 : Int), v6 = .int .i64 x6_1 ∧ Aside0 (laws_FnUndoneOrder.l0 kq t438 x6_1 = some r) ∧ Aside0 (kq ≤ k) ∧ Aside0 (Kd.R k46 46 w' w.heap.size (fun _ => True) (.slice Ao12 t438.length co12) t438) ∧ Aside0 (Below w.heap.size w w'))
   case atStart => exact ⟨(0), (by first | rfl | (simp; done) | (simp [*]; done)), H', ⟨Nat.le_refl _⟩, ⟨by (with_reducible repeat (first | apply Kd.R_alloc | apply Kd.R_drewN | apply Kd.R_drew)); exact Kd.R_mono HO440.out (fun _ hk => trivial)⟩, ⟨zzh1⟩⟩
   case round =>
    clear H'; try clear c2
    try clear c2b0
    try clear c2b1
    try clear p2
    try clear c7
    try clear c9
    obtain ⟨x6_1, rfl, HA, HK1, HO_4, HB⟩ := hrel; cases gk with
    | zero => exact absurd HA.out (by simp [laws_FnUndoneOrder.l0])
    | succ k1 =>
     have H := HA.out; clear HA; simp only [laws_FnUndoneOrder.l0] at H; by_cases c14 : x6_1 < (t438.length : Int)
     ·
      rw [if_pos c14] at H; have c14b0 : decide (x6_1 < (t438.length : Int)) = true := decide_eq_true c14; clear c14; have H' := zzm H; clear H; go_wp2; repeat (go_quiet (fail); try go_wp2)
      go_loopg [7] k1 (fun kq v7 w' => ∃ (x7_2 : Int), v7 = .int .i64 x7_2 ∧ Aside0 (laws_FnUndoneOrder.l1 kq t438 x6_1 x7_2 = some r) ∧ Aside0 (kq ≤ k1) ∧ Aside0 (Kd.R k46 46 w' w.heap.size (fun _ => True) (.slice Ao12 t438.length co12) t438) ∧ Aside0 (Below w.heap.size w w'))
      case atStart => exact ⟨(0), (by first | rfl | (simp; done) | (simp [*]; done)), H', ⟨Nat.le_refl _⟩, ⟨by (with_reducible repeat (first | apply Kd.R_alloc | apply Kd.R_drewN | apply Kd.R_drew)); exact HO_4.out⟩, ⟨zzh1⟩⟩
      case round =>
       clear H'; try clear c1
       try clear c2
       try clear c2b0
       try clear c2b1
       try clear p2
       try clear c7
       try clear c9
       try clear c14
       try clear c14b0
       try clear p2
       obtain ⟨x7_2, rfl, HA, HK2, HO_4, HB⟩ := hrel; cases gk with
       | zero => exact absurd HA.out (by simp [laws_FnUndoneOrder.l1])
       | succ k2 =>
        have H := HA.out; clear HA; simp only [laws_FnUndoneOrder.l1] at H; by_cases c15 : x7_2 < x6_1
        ·
         rw [if_pos c15] at H; have c15b0 : decide (x7_2 < x6_1) = true := decide_eq_true c15; clear c15; by_cases c16 : 0 ≤ x7_2
         ·
          rw [if_pos c16] at H; have c16b0 : decide (0 ≤ x7_2) = true := decide_eq_true c16; clear c16; by_cases c17 : x7_2 < (t438.length : Int)
          ·
           rw [if_pos c17] at H; have c17b0 : decide (x7_2 < (t438.length : Int)) = true := decide_eq_true c17; clear c17; by_cases c18 : 0 ≤ x6_1
           ·
            rw [if_pos c18] at H; have c18b0 : decide (0 ≤ x6_1) = true := decide_eq_true c18; clear c18; by_cases c19 : x6_1 < (t438.length : Int)
            ·
             rw [if_pos c19] at H; have c19b0 : decide (x6_1 < (t438.length : Int)) = true := decide_eq_true c19; clear c19; by_cases c20 : ((rd_T46 t438 x7_2).f1) ≥ ((rd_T46 t438 x6_1).f1)
             ·
              rw [if_pos c20] at H; have c20b0 : decide (((rd_T46 t438 x6_1).f1) ≤ ((rd_T46 t438 x7_2).f1)) = true := decide_eq_true c20; clear c20; obtain rfl := Option.some.inj H; have p446 : 0 ≤ (x7_2 : Int) := zzt; have q446 : x7_2 < (t438.length : Int) := zzt; obtain ⟨ad446, e446, hx446_0, hx446_1, hx446_2⟩ := at_T46 (Kd.R_reads' HO_4.out).2.2 x7_2 p446 q446; cases e446; replace p446 := eq_true p446; replace q446 := eq_true q446; have p447 : 0 ≤ (x6_1 : Int) := zzt; have q447 : x6_1 < (t438.length : Int) := zzt; obtain ⟨ad447, e447, hx447_0, hx447_1, hx447_2⟩ := at_T46 (Kd.R_reads' HO_4.out).2.2 x6_1 p447 q447; obtain rfl : ad446 = ad447 := (by injection e447); replace p447 := eq_true p447; replace q447 := eq_true q447; go_wp2; repeat (go_quiet (fail); try go_wp2)
              go_ret; exact ⟨by first | rfl | (simp [errW_none, errW_some] <;> rfl) | (simp [*, errW_none, errW_some] <;> rfl), zzh1⟩
             ·
              rw [if_neg c20] at H; have c20b0 : decide (((rd_T46 t438 x6_1).f1) ≤ ((rd_T46 t438 x7_2).f1)) = false := decide_eq_false c20; clear c20; by_cases c21 : ((rd_T46 t438 x7_2).f0) = ((rd_T46 t438 x6_1).f0)
              ·
               rw [if_pos c21] at H; have c21b0 : (((rd_T46 t438 x7_2).f0) == ((rd_T46 t438 x6_1).f0)) = true := beq_iff_eq.mpr c21; have c21b1 : (((rd_T46 t438 x7_2).f0) != ((rd_T46 t438 x6_1).f0)) = false := bne_eq_false_iff_eq.mpr c21; clear c21; by_cases c22 : ((rd_T46 t438 x7_2).f2) ≥ ((rd_T46 t438 x6_1).f1)
               ·
                rw [if_pos c22] at H; have c22b0 : decide (((rd_T46 t438 x6_1).f1) ≤ ((rd_T46 t438 x7_2).f2)) = true := decide_eq_true c22; clear c22; obtain rfl := Option.some.inj H; have p446 : 0 ≤ (x7_2 : Int) := zzt; have q446 : x7_2 < (t438.length : Int) := zzt; obtain ⟨ad446, e446, hx446_0, hx446_1, hx446_2⟩ := at_T46 (Kd.R_reads' HO_4.out).2.2 x7_2 p446 q446; cases e446; replace p446 := eq_true p446; replace q446 := eq_true q446; have p447 : 0 ≤ (x6_1 : Int) := zzt; have q447 : x6_1 < (t438.length : Int) := zzt; obtain ⟨ad447, e447, hx447_0, hx447_1, hx447_2⟩ := at_T46 (Kd.R_reads' HO_4.out).2.2 x6_1 p447 q447; obtain rfl : ad446 = ad447 := (by injection e447); replace p447 := eq_true p447; replace q447 := eq_true q447; have p448 : 0 ≤ (x7_2 : Int) := zzt; have q448 : x7_2 < (t438.length : Int) := zzt; obtain ⟨ad448, e448, hx448_0, hx448_1, hx448_2⟩ := at_T46 (Kd.R_reads' HO_4.out).2.2 x7_2 p448 q448; obtain rfl : ad446 = ad448 := (by injection e448); replace p448 := eq_true p448; replace q448 := eq_true q448; have p449 : 0 ≤ (x6_1 : Int) := zzt; have q449 : x6_1 < (t438.length : Int) := zzt; obtain ⟨ad449, e449, hx449_0, hx449_1, hx449_2⟩ := at_T46 (Kd.R_reads' HO_4.out).2.2 x6_1 p449 q449; obtain rfl : ad446 = ad449 := (by injection e449); replace p449 := eq_true p449; replace q449 := eq_true q449; have p450 : 0 ≤ (x7_2 : Int) := zzt; have q450 : x7_2 < (t438.length : Int) := zzt; obtain ⟨ad450, e450, hx450_0, hx450_1, hx450_2⟩ := at_T46 (Kd.R_reads' HO_4.out).2.2 x7_2 p450 q450; obtain rfl : ad446 = ad450 := (by injection e450); replace p450 := eq_true p450; replace q450 := eq_true q450; have p451 : 0 ≤ (x6_1 : Int) := zzt; have q451 : x6_1 < (t438.length : Int) := zzt; obtain ⟨ad451, e451, hx451_0, hx451_1, hx451_2⟩ := at_T46 (Kd.R_reads' HO_4.out).2.2 x6_1 p451 q451; obtain rfl : ad446 = ad451 := (by injection e451); replace p451 := eq_true p451; replace q451 := eq_true q451; go_wp2; repeat (go_quiet (fail); try go_wp2)
                go_ret; exact ⟨by first | rfl | (simp [errW_none, errW_some] <;> rfl) | (simp [*, errW_none, errW_some] <;> rfl), zzh1⟩
               ·
                rw [if_neg c22] at H; have c22b0 : decide (((rd_T46 t438 x6_1).f1) ≤ ((rd_T46 t438 x7_2).f2)) = false := decide_eq_false c22; clear c22; have H' := zzm H; clear H; have p446 : 0 ≤ (x7_2 : Int) := zzt; have q446 : x7_2 < (t438.length : Int) := zzt; obtain ⟨ad446, e446, hx446_0, hx446_1, hx446_2⟩ := at_T46 (Kd.R_reads' HO_4.out).2.2 x7_2 p446 q446; cases e446; replace p446 := eq_true p446; replace q446 := eq_true q446; have p447 : 0 ≤ (x6_1 : Int) := zzt; have q447 : x6_1 < (t438.length : Int) := zzt; obtain ⟨ad447, e447, hx447_0, hx447_1, hx447_2⟩ := at_T46 (Kd.R_reads' HO_4.out).2.2 x6_1 p447 q447; obtain rfl : ad446 = ad447 := (by injection e447); replace p447 := eq_true p447; replace q447 := eq_true q447; have p448 : 0 ≤ (x7_2 : Int) := zzt; have q448 : x7_2 < (t438.length : Int) := zzt; obtain ⟨ad448, e448, hx448_0, hx448_1, hx448_2⟩ := at_T46 (Kd.R_reads' HO_4.out).2.2 x7_2 p448 q448; obtain rfl : ad446 = ad448 := (by injection e448); replace p448 := eq_true p448; replace q448 := eq_true q448; have p449 : 0 ≤ (x6_1 : Int) := zzt; have q449 : x6_1 < (t438.length : Int) := zzt; obtain ⟨ad449, e449, hx449_0, hx449_1, hx449_2⟩ := at_T46 (Kd.R_reads' HO_4.out).2.2 x6_1 p449 q449; obtain rfl : ad446 = ad449 := (by injection e449); replace p449 := eq_true p449; replace q449 := eq_true q449; have p450 : 0 ≤ (x7_2 : Int) := zzt; have q450 : x7_2 < (t438.length : Int) := zzt; obtain ⟨ad450, e450, hx450_0, hx450_1, hx450_2⟩ := at_T46 (Kd.R_reads' HO_4.out).2.2 x7_2 p450 q450; obtain rfl : ad446 = ad450 := (by injection e450); replace p450 := eq_true p450; replace q450 := eq_true q450; have p451 : 0 ≤ (x6_1 : Int) := zzt; have q451 : x6_1 < (t438.length : Int) := zzt; obtain ⟨ad451, e451, hx451_0, hx451_1, hx451_2⟩ := at_T46 (Kd.R_reads' HO_4.out).2.2 x6_1 p451 q451; obtain rfl : ad446 = ad451 := (by injection e451); replace p451 := eq_true p451; replace q451 := eq_true q451; go_wp2; repeat (go_quiet (fail); try go_wp2)
                go_roundg k2
                case measure => have := HK1.out; have := HK2.out; omega
                case rel => exact ⟨(wrap64 (x7_2 + 1)), (by first | rfl | (simp; done) | (simp [*]; done)), H', ⟨by have := HK1.out; have := HK2.out; omega⟩, ⟨by (with_reducible repeat (first | apply Kd.R_alloc | apply Kd.R_drewN | apply Kd.R_drew)); exact HO_4.out⟩, ⟨zzh1⟩⟩
              ·
               rw [if_neg c21] at H; have c21b0 : (((rd_T46 t438 x7_2).f0) == ((rd_T46 t438 x6_1).f0)) = false := beq_eq_false_iff_ne.mpr c21; have c21b1 : (((rd_T46 t438 x7_2).f0) != ((rd_T46 t438 x6_1).f0)) = true := bne_iff_ne.mpr c21; have H' := zzm H; clear H; have p446 : 0 ≤ (x7_2 : Int) := zzt; have q446 : x7_2 < (t438.length : Int) := zzt; obtain ⟨ad446, e446, hx446_0, hx446_1, hx446_2⟩ := at_T46 (Kd.R_reads' HO_4.out).2.2 x7_2 p446 q446; cases e446; replace p446 := eq_true p446; replace q446 := eq_true q446; have p447 : 0 ≤ (x6_1 : Int) := zzt; have q447 : x6_1 < (t438.length : Int) := zzt; obtain ⟨ad447, e447, hx447_0, hx447_1, hx447_2⟩ := at_T46 (Kd.R_reads' HO_4.out).2.2 x6_1 p447 q447; obtain rfl : ad446 = ad447 := (by injection e447); replace p447 := eq_true p447; replace q447 := eq_true q447; have p448 : 0 ≤ (x7_2 : Int) := zzt; have q448 : x7_2 < (t438.length : Int) := zzt; obtain ⟨ad448, e448, hx448_0, hx448_1, hx448_2⟩ := at_T46 (Kd.R_reads' HO_4.out).2.2 x7_2 p448 q448; obtain rfl : ad446 = ad448 := (by injection e448); replace p448 := eq_true p448; replace q448 := eq_true q448; have p449 : 0 ≤ (x6_1 : Int) := zzt; have q449 : x6_1 < (t438.length : Int) := zzt; obtain ⟨ad449, e449, hx449_0, hx449_1, hx449_2⟩ := at_T46 (Kd.R_reads' HO_4.out).2.2 x6_1 p449 q449; obtain rfl : ad446 = ad449 := (by injection e449); replace p449 := eq_true p449; replace q449 := eq_true q449; go_wp2; repeat (go_quiet (fail); try go_wp2)
               go_roundg k2
               case measure => have := HK1.out; have := HK2.out; omega
               case rel => exact ⟨(wrap64 (x7_2 + 1)), (by first | rfl | (simp; done) | (simp [*]; done)), H', ⟨by have := HK1.out; have := HK2.out; omega⟩, ⟨by (with_reducible repeat (first | apply Kd.R_alloc | apply Kd.R_drewN | apply Kd.R_drew)); exact HO_4.out⟩, ⟨zzh1⟩⟩
            ·
             rw [if_neg c19] at H; exact absurd H (by simp)
           ·
            rw [if_neg c18] at H; exact absurd H (by simp)
          ·
           rw [if_neg c17] at H; exact absurd H (by simp)
         ·
          rw [if_neg c16] at H; exact absurd H (by simp)
        ·
         rw [if_neg c15] at H; have c15b0 : decide (x7_2 < x6_1) = false := decide_eq_false c15; clear c15; have H' := zzm H; clear H; go_wp2; repeat (go_quiet (fail); try go_wp2)
         go_roundg k2
         case measure => have := HK1.out; have := HK2.out; omega
         case rel => exact ⟨(wrap64 (x6_1 + 1)), (by first | rfl | (simp; done) | (simp [*]; done)), H', ⟨by have := HK1.out; have := HK2.out; omega⟩, ⟨by (with_reducible repeat (first | apply Kd.R_alloc | apply Kd.R_drewN | apply Kd.R_drew)); exact HO_4.out⟩, ⟨zzh1⟩⟩
     ·
      rw [if_neg c14] at H; have c14b0 : decide (x6_1 < (t438.length : Int)) = false := decide_eq_false c14; clear c14; obtain rfl := Option.some.inj H; go_wp2; repeat (go_quiet (fail); try go_wp2)
      go_ret; exact ⟨by first | rfl | (simp [errW_none, errW_some] <;> rfl) | (simp [*, errW_none, errW_some] <;> rfl), zzh1⟩
  ·
   replace c7 := Bool.eq_false_iff.mpr c7; subst c7; have H1 : ((laws_sameUndone.f k t438 t441).bind fun t445 => (some t445)) = some r := by rw [if_neg (show ¬ (false = true) by decide)] at H; exact H
   clear H; have H := H1; clear H1; replace H := Option.bind_eq_some_iff.mp H; obtain ⟨t445, A230, H⟩ := H; replace H : (some t445) = some r := H; have A23 := zzm A230; clear A230; obtain rfl : t445 = false := Option.some.inj (A23.out.symm.trans A6.out); obtain rfl := Option.some.inj H; go_enter Try.func9, Try.ntmps9; go_wp2_with (first | (go_at_call 31; (with_reducible refine (spec_DrawUndoneOf.calls k _ _ l0 t435 _ ?side1 ?side2 A3.out).mono ?_); (case side1 => repeat (first | exact HR0.out | (with_reducible refine Kd.C_alloc ?_ _) | (with_reducible refine Kd.C_drewN ?_ _) | (with_reducible refine Kd.C_drew ?_))); (case side2 => exact HC0.out); rintro e w24 ⟨v436, rfl, ho0, hb⟩; have n0_ := zzm (Kd.N_lower (Kd.N_mono (ok' := fun k_ => True) ho0 (fun k_ hk_ => trivial)) (zzo zzh1)); have n1_ := zzm (zzp zzh1 hb); clear HB; have HO437 := n0_; have HB := n1_; clear n0_ n1_; (try clear hb); (try clear hb2); (try clear hk); (try clear hi); (try clear ho0); obtain ⟨Ao25, co25, eo25⟩ := Kd.N_slice HO437.out; subst eo25) | (go_at_call 32; (with_reducible refine (impl_UndoneOf.calls k _ _ t435 t438 _ ?side1 ?side2 A4.out).mono ?_); (case side1 => repeat (first | exact (Kd.N_reads' HO437.out).2.2 | (with_reducible refine Kd.C_alloc ?_ _) | (with_reducible refine Kd.C_drewN ?_ _) | (with_reducible refine Kd.C_drew ?_))); (case side2 => exact (Kd.N_reads' HO437.out).2.1); rintro e w26 ⟨v439, rfl, ho0, hb⟩; have n0_ := zzm (Kd.N_elder' (by (with_reducible repeat (first | apply Kd.N_alloc | apply Kd.N_drewN | apply Kd.N_drew)); exact HO437.out) (Kd.R_base ho0) hb); have n1_ := zzm (Kd.R_lower ho0 (zzo zzh1)); have n2_ := zzm (zzp zzh1 hb); clear HO437 HB; have HO437 := n0_; have HO440 := n1_; have HB := n2_; clear n0_ n1_ n2_; (try clear hb); (try clear hb2); (try clear hk); (try clear hi); (try clear ho0)) | (go_at_call 33; (with_reducible refine (spec_UndoneOf.calls k _ _ t435 t441 _ ?side1 ?side2 A5.out).mono ?_); (case side1 => repeat (first | exact (Kd.N_reads' HO437.out).2.2 | (with_reducible refine Kd.C_alloc ?_ _) | (with_reducible refine Kd.C_drewN ?_ _) | (with_reducible refine Kd.C_drew ?_))); (case side2 => exact (Kd.N_reads' HO437.out).2.1); rintro e w27 ⟨v442, rfl, ho0, hb⟩; have n0_ := zzm (Kd.N_elder' (by (with_reducible repeat (first | apply Kd.N_alloc | apply Kd.N_drewN | apply Kd.N_drew)); exact HO437.out) (Kd.R_base ho0) hb); have n1_ := zzm (Kd.R_elder' (by (with_reducible repeat (first | apply Kd.R_alloc | apply Kd.R_drewN | apply Kd.R_drew)); exact HO440.out) (Kd.R_base ho0) hb); have n2_ := zzm (Kd.R_lower (Kd.R_new' ho0 (Kd.R_lt (by (with_reducible repeat (first | apply Kd.R_alloc | apply Kd.R_drewN | apply Kd.R_drew)); exact HO440.out))) (zzo zzh1)); have n3_ := zzm (zzp zzh1 hb); clear HO437 HO440 HB; have HO437 := n0_; have HO440 := n1_; have HO443 := n2_; have HB := n3_; clear n0_ n1_ n2_ n3_; (try clear hb); (try clear hb2); (try clear hk); (try clear hi); (try clear ho0); obtain ⟨Ao28, co28, eo28⟩ := Kd.R_slice HO440.out; subst eo28; obtain ⟨Ao29, co29, eo29⟩ := Kd.R_slice HO443.out; subst eo29) | (go_at_call 34; (with_reducible refine (laws_sameUndone.calls k _ _ t438 _ _ t441 false _ ?side1 ?side2 ?side3 ?side4 A6.out).mono ?_); (case side1 => repeat (first | exact (Kd.R_reads' HO440.out).2.2 | (with_reducible refine Kd.C_alloc ?_ _) | (with_reducible refine Kd.C_drewN ?_ _) | (with_reducible refine Kd.C_drew ?_))); (case side2 => exact (Kd.R_reads' HO440.out).2.1); (case side3 => repeat (first | exact (Kd.R_reads' HO443.out).2.2 | (with_reducible refine Kd.C_alloc ?_ _) | (with_reducible refine Kd.C_drewN ?_ _) | (with_reducible refine Kd.C_drew ?_))); (case side4 => exact (Kd.R_reads' HO443.out).2.1); rintro e w' ⟨rfl, ⟨nd, rfl⟩⟩; (try first | exact ⟨rfl, _, World.drewN_drewN _ _ _⟩ | exact ⟨rfl, _, Eq.trans (World.drewN_drewN _ _ _) (congrArg (World.drewN _) (Nat.add_assoc _ _ _))⟩)) | (go_at_call 34; (with_reducible refine (laws_sameUndone.calls k _ _ t438 _ _ t441 t445 _ ?side1 ?side2 ?side3 ?side4 A23.out).mono ?_); (case side1 => repeat (first | exact (Kd.R_reads' HO440.out).2.2 | (with_reducible refine Kd.C_alloc ?_ _) | (with_reducible refine Kd.C_drewN ?_ _) | (with_reducible refine Kd.C_drew ?_))); (case side2 => exact (Kd.R_reads' HO440.out).2.1); (case side3 => repeat (first | exact (Kd.R_reads' HO443.out).2.2 | (with_reducible refine Kd.C_alloc ?_ _) | (with_reducible refine Kd.C_drewN ?_ _) | (with_reducible refine Kd.C_drew ?_))); (case side4 => exact (Kd.R_reads' HO443.out).2.1); rintro e w' ⟨rfl, ⟨nd, rfl⟩⟩; (try first | exact ⟨rfl, _, World.drewN_drewN _ _ _⟩ | exact ⟨rfl, _, Eq.trans (World.drewN_drewN _ _ _) (congrArg (World.drewN _) (Nat.add_assoc _ _ _))⟩))); repeat (go_quiet (first | (go_at_call 31; (with_reducible refine (spec_DrawUndoneOf.calls k _ _ l0 t435 _ ?side1 ?side2 A3.out).mono ?_); (case side1 => repeat (first | exact HR0.out | (with_reducible refine Kd.C_alloc ?_ _) | (with_reducible refine Kd.C_drewN ?_ _) | (with_reducible refine Kd.C_drew ?_))); (case side2 => exact HC0.out); rintro e w24 ⟨v436, rfl, ho0, hb⟩; have n0_ := zzm (Kd.N_lower (Kd.N_mono (ok' := fun k_ => True) ho0 (fun k_ hk_ => trivial)) (zzo zzh1)); have n1_ := zzm (zzp zzh1 hb); clear HB; have HO437 := n0_; have HB := n1_; clear n0_ n1_; (try clear hb); (try clear hb2); (try clear hk); (try clear hi); (try clear ho0); obtain ⟨Ao25, co25, eo25⟩ := Kd.N_slice HO437.out; subst eo25) | (go_at_call 32; (with_reducible refine (impl_UndoneOf.calls k _ _ t435 t438 _ ?side1 ?side2 A4.out).mono ?_); (case side1 => repeat (first | exact (Kd.N_reads' HO437.out).2.2 | (with_reducible refine Kd.C_alloc ?_ _) | (with_reducible refine Kd.C_drewN ?_ _) | (with_reducible refine Kd.C_drew ?_))); (case side2 => exact (Kd.N_reads' HO437.out).2.1); rintro e w26 ⟨v439, rfl, ho0, hb⟩; have n0_ := zzm (Kd.N_elder' (by (with_reducible repeat (first | apply Kd.N_alloc | apply Kd.N_drewN | apply Kd.N_drew)); exact HO437.out) (Kd.R_base ho0) hb); have n1_ := zzm (Kd.R_lower ho0 (zzo zzh1)); have n2_ := zzm (zzp zzh1 hb); clear HO437 HB; have HO437 := n0_; have HO440 := n1_; have HB := n2_; clear n0_ n1_ n2_; (try clear hb); (try clear hb2); (try clear hk); (try clear hi); (try clear ho0)) | (go_at_call 33; (with_reducible refine (spec_UndoneOf.calls k _ _ t435 t441 _ ?side1 ?side2 A5.out).mono ?_); (case side1 => repeat (first | exact (Kd.N_reads' HO437.out).2.2 | (with_reducible refine Kd.C_alloc ?_ _) | (with_reducible refine Kd.C_drewN ?_ _) | (with_reducible refine Kd.C_drew ?_))); (case side2 => exact (Kd.N_reads' HO437.out).2.1); rintro e w27 ⟨v442, rfl, ho0, hb⟩; have n0_ := zzm (Kd.N_elder' (by (with_reducible repeat (first | apply Kd.N_alloc | apply Kd.N_drewN | apply Kd.N_drew)); exact HO437.out) (Kd.R_base ho0) hb); have n1_ := zzm (Kd.R_elder' (by (with_reducible repeat (first | apply Kd.R_alloc | apply Kd.R_drewN | apply Kd.R_drew)); exact HO440.out) (Kd.R_base ho0) hb); have n2_ := zzm (Kd.R_lower (Kd.R_new' ho0 (Kd.R_lt (by (with_reducible repeat (first | apply Kd.R_alloc | apply Kd.R_drewN | apply Kd.R_drew)); exact HO440.out))) (zzo zzh1)); have n3_ := zzm (zzp zzh1 hb); clear HO437 HO440 HB; have HO437 := n0_; have HO440 := n1_; have HO443 := n2_; have HB := n3_; clear n0_ n1_ n2_ n3_; (try clear hb); (try clear hb2); (try clear hk); (try clear hi); (try clear ho0); obtain ⟨Ao28, co28, eo28⟩ := Kd.R_slice HO440.out; subst eo28; obtain ⟨Ao29, co29, eo29⟩ := Kd.R_slice HO443.out; subst eo29) | (go_at_call 34; (with_reducible refine (laws_sameUndone.calls k _ _ t438 _ _ t441 false _ ?side1 ?side2 ?side3 ?side4 A6.out).mono ?_); (case side1 => repeat (first | exact (Kd.R_reads' HO440.out).2.2 | (with_reducible refine Kd.C_alloc ?_ _) | (with_reducible refine Kd.C_drewN ?_ _) | (with_reducible refine Kd.C_drew ?_))); (case side2 => exact (Kd.R_reads' HO440.out).2.1); (case side3 => repeat (first | exact (Kd.R_reads' HO443.out).2.2 | (with_reducible refine Kd.C_alloc ?_ _) | (with_reducible refine Kd.C_drewN ?_ _) | (with_reducible refine Kd.C_drew ?_))); (case side4 => exact (Kd.R_reads' HO443.out).2.1); rintro e w' ⟨rfl, ⟨nd, rfl⟩⟩; (try first | exact ⟨rfl, _, World.drewN_drewN _ _ _⟩ | exact ⟨rfl, _, Eq.trans (World.drewN_drewN _ _ _) (congrArg (World.drewN _) (Nat.add_assoc _ _ _))⟩)) | (go_at_call 34; (with_reducible refine (laws_sameUndone.calls k _ _ t438 _ _ t441 t445 _ ?side1 ?side2 ?side3 ?side4 A23.out).mono ?_); (case side1 => repeat (first | exact (Kd.R_reads' HO440.out).2.2 | (with_reducible refine Kd.C_alloc ?_ _) | (with_reducible refine Kd.C_drewN ?_ _) | (with_reducible refine Kd.C_drew ?_))); (case side2 => exact (Kd.R_reads' HO440.out).2.1); (case side3 => repeat (first | exact (Kd.R_reads' HO443.out).2.2 | (with_reducible refine Kd.C_alloc ?_ _) | (with_reducible refine Kd.C_drewN ?_ _) | (with_reducible refine Kd.C_drew ?_))); (case side4 => exact (Kd.R_reads' HO443.out).2.1); rintro e w' ⟨rfl, ⟨nd, rfl⟩⟩; (try first | exact ⟨rfl, _, World.drewN_drewN _ _ _⟩ | exact ⟨rfl, _, Eq.trans (World.drewN_drewN _ _ _) (congrArg (World.drewN _) (Nat.add_assoc _ _ _))⟩))); try go_wp2_with (first | (go_at_call 31; (with_reducible refine (spec_DrawUndoneOf.calls k _ _ l0 t435 _ ?side1 ?side2 A3.out).mono ?_); (case side1 => repeat (first | exact HR0.out | (with_reducible refine Kd.C_alloc ?_ _) | (with_reducible refine Kd.C_drewN ?_ _) | (with_reducible refine Kd.C_drew ?_))); (case side2 => exact HC0.out); rintro e w24 ⟨v436, rfl, ho0, hb⟩; have n0_ := zzm (Kd.N_lower (Kd.N_mono (ok' := fun k_ => True) ho0 (fun k_ hk_ => trivial)) (zzo zzh1)); have n1_ := zzm (zzp zzh1 hb); clear HB; have HO437 := n0_; have HB := n1_; clear n0_ n1_; (try clear hb); (try clear hb2); (try clear hk); (try clear hi); (try clear ho0); obtain ⟨Ao25, co25, eo25⟩ := Kd.N_slice HO437.out; subst eo25) | (go_at_call 32; (with_reducible refine (impl_UndoneOf.calls k _ _ t435 t438 _ ?side1 ?side2 A4.out).mono ?_); (case side1 => repeat (first | exact (Kd.N_reads' HO437.out).2.2 | (with_reducible refine Kd.C_alloc ?_ _) | (with_reducible refine Kd.C_drewN ?_ _) | (with_reducible refine Kd.C_drew ?_))); (case side2 => exact (Kd.N_reads' HO437.out).2.1); rintro e w26 ⟨v439, rfl, ho0, hb⟩; have n0_ := zzm (Kd.N_elder' (by (with_reducible repeat (first | apply Kd.N_alloc | apply Kd.N_drewN | apply Kd.N_drew)); exact HO437.out) (Kd.R_base ho0) hb); have n1_ := zzm (Kd.R_lower ho0 (zzo zzh1)); have n2_ := zzm (zzp zzh1 hb); clear HO437 HB; have HO437 := n0_; have HO440 := n1_; have HB := n2_; clear n0_ n1_ n2_; (try clear hb); (try clear hb2); (try clear hk); (try clear hi); (try clear ho0)) | (go_at_call 33; (with_reducible refine (spec_UndoneOf.calls k _ _ t435 t441 _ ?side1 ?side2 A5.out).mono ?_); (case side1 => repeat (first | exact (Kd.N_reads' HO437.out).2.2 | (with_reducible refine Kd.C_alloc ?_ _) | (with_reducible refine Kd.C_drewN ?_ _) | (with_reducible refine Kd.C_drew ?_))); (case side2 => exact (Kd.N_reads' HO437.out).2.1); rintro e w27 ⟨v442, rfl, ho0, hb⟩; have n0_ := zzm (Kd.N_elder' (by (with_reducible repeat (first | apply Kd.N_alloc | apply Kd.N_drewN | apply Kd.N_drew)); exact HO437.out) (Kd.R_base ho0) hb); have n1_ := zzm (Kd.R_elder' (by (with_reducible repeat (first | apply Kd.R_alloc | apply Kd.R_drewN | apply Kd.R_drew)); exact HO440.out) (Kd.R_base ho0) hb); have n2_ := zzm (Kd.R_lower (Kd.R_new' ho0 (Kd.R_lt (by (with_reducible repeat (first | apply Kd.R_alloc | apply Kd.R_drewN | apply Kd.R_drew)); exact HO440.out))) (zzo zzh1)); have n3_ := zzm (zzp zzh1 hb); clear HO437 HO440 HB; have HO437 := n0_; have HO440 := n1_; have HO443 := n2_; have HB := n3_; clear n0_ n1_ n2_ n3_; (try clear hb); (try clear hb2); (try clear hk); (try clear hi); (try clear ho0); obtain ⟨Ao28, co28, eo28⟩ := Kd.R_slice HO440.out; subst eo28; obtain ⟨Ao29, co29, eo29⟩ := Kd.R_slice HO443.out; subst eo29) | (go_at_call 34; (with_reducible refine (laws_sameUndone.calls k _ _ t438 _ _ t441 false _ ?side1 ?side2 ?side3 ?side4 A6.out).mono ?_); (case side1 => repeat (first | exact (Kd.R_reads' HO440.out).2.2 | (with_reducible refine Kd.C_alloc ?_ _) | (with_reducible refine Kd.C_drewN ?_ _) | (with_reducible refine Kd.C_drew ?_))); (case side2 => exact (Kd.R_reads' HO440.out).2.1); (case side3 => repeat (first | exact (Kd.R_reads' HO443.out).2.2 | (with_reducible refine Kd.C_alloc ?_ _) | (with_reducible refine Kd.C_drewN ?_ _) | (with_reducible refine Kd.C_drew ?_))); (case side4 => exact (Kd.R_reads' HO443.out).2.1); rintro e w' ⟨rfl, ⟨nd, rfl⟩⟩; (try first | exact ⟨rfl, _, World.drewN_drewN _ _ _⟩ | exact ⟨rfl, _, Eq.trans (World.drewN_drewN _ _ _) (congrArg (World.drewN _) (Nat.add_assoc _ _ _))⟩)) | (go_at_call 34; (with_reducible refine (laws_sameUndone.calls k _ _ t438 _ _ t441 t445 _ ?side1 ?side2 ?side3 ?side4 A23.out).mono ?_); (case side1 => repeat (first | exact (Kd.R_reads' HO440.out).2.2 | (with_reducible refine Kd.C_alloc ?_ _) | (with_reducible refine Kd.C_drewN ?_ _) | (with_reducible refine Kd.C_drew ?_))); (case side2 => exact (Kd.R_reads' HO440.out).2.1); (case side3 => repeat (first | exact (Kd.R_reads' HO443.out).2.2 | (with_reducible refine Kd.C_alloc ?_ _) | (with_reducible refine Kd.C_drewN ?_ _) | (with_reducible refine Kd.C_drew ?_))); (case side4 => exact (Kd.R_reads' HO443.out).2.1); rintro e w' ⟨rfl, ⟨nd, rfl⟩⟩; (try first | exact ⟨rfl, _, World.drewN_drewN _ _ _⟩ | exact ⟨rfl, _, Eq.trans (World.drewN_drewN _ _ _) (congrArg (World.drewN _) (Nat.add_assoc _ _ _))⟩))))
   go_ret; exact ⟨by first | rfl | (simp [errW_none, errW_some] <;> rfl) | (simp [*, errW_none, errW_some] <;> rfl), zzh1⟩
def laws_FnUndoneOrder.Pure : Prop := ∀ (l0 : List Int), l0.length ≤ maxLen → l0.length * 1 ≤ 140737488351232 → (∀ x ∈ l0, (Lit.int .u8 x).wf = true) → ∃ k, laws_FnUndoneOrder.f k l0 = some true
theorem laws_FnUndoneOrder.walk (P : laws_FnUndoneOrder.Pure) (a0 : Option Addr) (len0 cap0 : Nat) (z0 : List Int) (w : World) (w0 : (a0 = none ∧ len0 = 0 ∧ cap0 = 0 ∧ z0 = []) ∨ ∃ x, a0 = some x ∧ len0 ≤ cap0 ∧ cap0 ≤ maxLen ∧ z0.length = cap0 ∧ (∀ i, i < z0.length → w.cell? (x.add i) = some (.int .u8 (z0.getD i 0))) ∧ ∀ n ∈ z0, (Lit.int .u8 n).wf = true) (y0 : len0 * 1 ≤ 140737488351232) :
  Calls Try.prog 9 #[.slice a0 len0 cap0] w fun e w' => e = .returned (.bool true) ∧ Below w.heap.size w w' := by
 obtain ⟨l0, rfl, hr0, hm0, hw0, hc0⟩ := ReadsInt.ofRowC w0; obtain ⟨k, h⟩ := P l0 hm0 y0 hw0; refine (laws_FnUndoneOrder.calls k _ _ l0 true w (Kd.C_of_reads (d := (0 : Int)) (h1 := fun _ => rfl) hr0) hc0 h).mono ?_; rintro e w' ⟨rfl, hd⟩; exact ⟨rfl, hd⟩
end Go.Proofs.Yticpnjhkdfdkkaa.T
namespace Go.Proofs.Yticpnjhkdfdkkaa.Q
open Go.RowKit Go.Proofs.YticpnjhkdfdkkaaW.PrintWords
set_option linter.unusedVariables false
set_option linter.unusedSimpArgs false
theorem ev_succ {α : Type} {g : Nat → Option α} {r : α} (h : Ev (fun k => g (k + 1)) r) : Ev g r := Ev.step (f := fun k => g (k + 1)) (fun _ => rfl) h
theorem ev_of_all {α : Type} {g : Nat → Option α} {r : α} (h : ∀ k, g k = some r) : Ev g r := ⟨0, fun k _ => h k⟩
theorem ev_some {α : Type} (r : α) : Ev (fun _ => some r) r := ev_of_all fun _ => rfl
def Evs {α : Type} (g : Nat → Option α) (Q : α → Prop) : Prop := ∃ r, Ev g r ∧ Q r
theorem Evs.of {α : Type} {g : Nat → Option α} {Q : α → Prop} {r : α} (h : Ev g r) (hq : Q r) : Evs g Q := ⟨r, h, hq⟩
theorem Evs.done {α : Type} {Q : α → Prop} {r : α} (hq : Q r) : Evs (fun _ => some r) Q := ⟨r, ev_some r, hq⟩
theorem Evs.mono {α : Type} {g : Nat → Option α} {Q Q' : α → Prop} (h : Evs g Q) (hq : ∀ r, Q r → Q' r) : Evs g Q' := by
  obtain ⟨r, h1, h2⟩ := h
  exact ⟨r, h1, hq r h2⟩
theorem Evs.succ {α : Type} {g : Nat → Option α} {Q : α → Prop} (h : Evs (fun k => g (k + 1)) Q) : Evs g Q := by
  obtain ⟨r, h1, h2⟩ := h
  exact ⟨r, ev_succ h1, h2⟩
theorem Evs.bind {α β : Type} {g : Nat → Option α} {f : Nat → α → Option β} {Q : α → Prop} {R : β → Prop} (h : Evs g Q) (k : ∀ a, Q a → Evs (fun n => f n a) R) : Evs (fun n => (g n).bind (f n)) R := by
  obtain ⟨a, h1, h2⟩ := h
  obtain ⟨r, k1, k2⟩ := k a h2
  exact ⟨r, Ev.bind h1 k1, k2⟩
theorem bsome {α β : Type} (a : α) (f : α → Option β) : (some a).bind f = f a := Eq.trans (Option.bind_some a f) (Eq.refl _)
end Go.Proofs.Yticpnjhkdfdkkaa.Q
namespace Go.Proofs.Yticpnjhkdfdkkaa.Q
open Go.RowKit Go.Proofs.Yticpnjhkdfdkkaa.T Go.Proofs.YticpnjhkdfdkkaaW.PrintWords Go.Proofs.YticpnjhkdfdkkaaW.PrintLast
set_option linter.unusedVariables false
set_option linter.unusedSimpArgs false
theorem wrap_id {x : Int} (h0 : -9223372036854775808 ≤ x) (h1 : x < 9223372036854775808) : wrap64 x = x := by unfold wrap64; omega
theorem tmod_range {x n : Int} (h : 0 ≤ x) (hn : 1 ≤ n) : 0 ≤ Int.tmod x n ∧ Int.tmod x n < n := by
  rw [Int.tmod_eq_emod_of_nonneg h]
  exact ⟨Int.emod_nonneg _ (by omega), Int.emod_lt_of_pos _ (by omega)⟩
theorem xor_nonneg {a b : Int} (h1 : 0 ≤ a) (h2 : a < 4611686018427387904) (h3 : 0 ≤ b) (h4 : b < 4611686018427387904) : 0 ≤ Go.bits .xor .i64 a b := by
  obtain ⟨A, rfl⟩ := Int.eq_ofNat_of_zero_le h1
  obtain ⟨B, rfl⟩ := Int.eq_ofNat_of_zero_le h3
  have hx : A ^^^ B < 2 ^ 62 := Nat.xor_lt_two_pow (by omega) (by omega)
  have e1 : (BitVec.ofInt 64 (A : Int)).toNat = A := by
    rw [BitVec.ofInt_natCast, BitVec.toNat_ofNat]; exact Nat.mod_eq_of_lt (by omega)
  have e2 : (BitVec.ofInt 64 (B : Int)).toNat = B := by
    rw [BitVec.ofInt_natCast, BitVec.toNat_ofNat]; exact Nat.mod_eq_of_lt (by omega)
  show 0 ≤ IntKind.i64.wrap ((BitVec.ofInt 64 (A : Int) ^^^ BitVec.ofInt 64 (B : Int)).toNat : Int)
  rw [BitVec.toNat_xor, e1, e2]
  simp only [IntKind.wrap, IntKind.bits, IntKind.signed]
  simp
  omega
def Bytes (b : List Int) : Prop := ∀ x ∈ b, 0 ≤ x ∧ x ≤ 255
theorem rd_bytes {b : List Int} (h : Bytes b) (i : Int) : 0 ≤ rd b i ∧ rd b i ≤ 255 := by
  unfold rd
  rw [List.getD_eq_getElem?_getD]
  cases e : b[i.toNat]? with
  | none => simp
  | some x => exact h x (List.mem_of_getElem? e)
theorem pick_ev (b : List Int) (p n : Int) (hb : Bytes b) (hl : b.length ≤ 2000) (h0 : 0 ≤ p) (h1 : p ≤ 1000000000) (hn : 1 ≤ n) :
    ∃ v, Ev (fun k => spec_l6Rd_pick.f k b p n) (v, p + 1) ∧ 0 ≤ v ∧ v < n := by
  have e1 : wrap64 (p + 1) = p + 1 := wrap_id (by omega) (by omega)
  have e2 : wrap64 (p + 1 - 1) = p := by rw [wrap_id (by omega) (by omega)]; omega
  by_cases hz : b.length = 0
  · refine ⟨0, ⟨1, fun k hk => ?_⟩, by omega, by omega⟩
    obtain ⟨k, rfl⟩ : ∃ m, k = m + 1 := ⟨k - 1, by omega⟩
    show spec_l6Rd_pick.f (k + 1) b p n = _
    unfold spec_l6Rd_pick.f
    rw [if_neg (by omega), e1]
    simp [spec_l6Rd_pick.j0, hz]
  · have hz' : (((b.length : Int) == 0) = true) = False := by simp; intro h; simp [h] at hz
    by_cases hlt : p < (b.length : Int)
    · obtain ⟨r0, r1⟩ := rd_bytes hb p
      have := tmod_range (x := rd b p) r0 hn
      refine ⟨Int.tmod (rd b p) n, ⟨1, fun k hk => ?_⟩, this.1, this.2⟩
      obtain ⟨k, rfl⟩ : ∃ m, k = m + 1 := ⟨k - 1, by omega⟩
      show spec_l6Rd_pick.f (k + 1) b p n = _
      unfold spec_l6Rd_pick.f
      rw [if_neg (by omega), e1]
      simp only [spec_l6Rd_pick.j0, e2, hz']
      rw [if_neg (by simp), if_pos hlt, if_pos h0, if_neg (by omega), wrap_id (by omega) (by omega)]
    · obtain ⟨q0, q1⟩ := tmod_range (x := p) (n := (b.length : Int)) h0 (by omega)
      obtain ⟨r0, r1⟩ := rd_bytes hb (Int.tmod p (b.length : Int))
      have f1 : wrap64 (p * 7) = p * 7 := wrap_id (by omega) (by omega)
      have f2 : wrap64 (p * 7 + 3) = p * 7 + 3 := wrap_id (by omega) (by omega)
      obtain ⟨q2, q3⟩ := tmod_range (x := p * 7 + 3) (n := (b.length : Int)) (by omega) (by omega)
      obtain ⟨r2, r3⟩ := rd_bytes hb (Int.tmod (p * 7 + 3) (b.length : Int))
      have d0 : 0 ≤ Int.tdiv p (b.length : Int) ∧ Int.tdiv p (b.length : Int) ≤ p := by
        rw [Int.tdiv_eq_ediv_of_nonneg h0]
        exact ⟨Int.ediv_nonneg h0 (by omega), Int.ediv_le_self _ h0⟩
      obtain ⟨x, hx⟩ : ∃ x, x = rd b (Int.tmod p (b.length : Int)) := ⟨_, rfl⟩
      obtain ⟨y, hy⟩ : ∃ y, y = rd b (Int.tmod (p * 7 + 3) (b.length : Int)) := ⟨_, rfl⟩
      obtain ⟨z, hz2⟩ : ∃ z, z = Int.tdiv p (b.length : Int) := ⟨_, rfl⟩
      obtain ⟨s, hs⟩ : ∃ s, s = x * 131 + y * 1117 + p * 29 + z * 53 := ⟨_, rfl⟩
      rw [← hx] at r0 r1
      rw [← hy] at r2 r3
      rw [← hz2] at d0
      have s0 : 0 ≤ s ∧ s < 4611686018427387904 := by omega
      have t0 : 0 ≤ Int.tdiv s 64 ∧ Int.tdiv s 64 ≤ s := by
        rw [Int.tdiv_eq_ediv_of_nonneg s0.1]
        exact ⟨Int.ediv_nonneg s0.1 (by omega), Int.ediv_le_self _ s0.1⟩
      have w1 : wrap64 x = x := wrap_id (by omega) (by omega)
      have w2 : wrap64 y = y := wrap_id (by omega) (by omega)
      have w3 : wrap64 z = z := wrap_id (by omega) (by omega)
      have w4 : wrap64 (x * 131) = x * 131 := wrap_id (by omega) (by omega)
      have w5 : wrap64 (y * 1117) = y * 1117 := wrap_id (by omega) (by omega)
      have w6 : wrap64 (p * 29) = p * 29 := wrap_id (by omega) (by omega)
      have w7 : wrap64 (z * 53) = z * 53 := wrap_id (by omega) (by omega)
      have w8 : wrap64 (x * 131 + y * 1117) = x * 131 + y * 1117 := wrap_id (by omega) (by omega)
      have w9 : wrap64 (x * 131 + y * 1117 + p * 29) = x * 131 + y * 1117 + p * 29 := wrap_id (by omega) (by omega)
      have wa : wrap64 (x * 131 + y * 1117 + p * 29 + z * 53) = s := by rw [hs]; exact wrap_id (by omega) (by omega)
      have wb : wrap64 (Int.tdiv s 64) = Int.tdiv s 64 := wrap_id (by omega) (by omega)
      have := tmod_range (x := Go.bits .xor .i64 s (Int.tdiv s 64)) (n := n) (xor_nonneg s0.1 s0.2 t0.1 (by omega)) hn
      refine ⟨_, ⟨1, fun k hk => ?_⟩, this.1, this.2⟩
      obtain ⟨k, rfl⟩ : ∃ m, k = m + 1 := ⟨k - 1, by omega⟩
      show spec_l6Rd_pick.f (k + 1) b p n = _
      unfold spec_l6Rd_pick.f
      rw [if_neg (by omega), e1]
      simp only [spec_l6Rd_pick.j0, e2, hz', f1, f2]
      rw [if_neg (by simp), if_neg hlt, if_neg (by omega), if_pos q0, if_pos q1, if_pos q2, if_pos q3, if_neg (by omega), ← hx, ← hy, ← hz2, w1, w2, w3, w4, w5, w6, w7, w8, w9, wa, wb]
theorem pick_evs (b : List Int) (p n : Int) (hb : Bytes b) (hl : b.length ≤ 2000) (h0 : 0 ≤ p) (h1 : p ≤ 1000000000) (hn : 1 ≤ n) :
    Evs (fun k => spec_l6Rd_pick.f k b p n) (fun r => 0 ≤ r.1 ∧ r.1 < n ∧ r.2 = p + 1) := by
  obtain ⟨v, h, v0, v1⟩ := pick_ev b p n hb hl h0 h1 hn
  exact ⟨_, h, v0, v1, rfl⟩
end Go.Proofs.Yticpnjhkdfdkkaa.Q
namespace Go.Proofs.Yticpnjhkdfdkkaa.Q
open Go.RowKit Go.Proofs.Yticpnjhkdfdkkaa.T Go.Proofs.YticpnjhkdfdkkaaW.PrintWords Go.Proofs.YticpnjhkdfdkkaaW.PrintLast
set_option linter.unusedVariables false
set_option linter.unusedSimpArgs false
theorem impl_within_eq (a b c : Int) : impl_within.f a b c = some (decide (b ≤ a ∧ a ≤ c)) := by
  unfold impl_within.f
  by_cases h : a ≥ b
  · rw [if_pos h]
    have : (b ≤ a ∧ a ≤ c) ↔ a ≤ c := ⟨fun h => h.2, fun h' => ⟨h, h'⟩⟩
    simp [this]
  · rw [if_neg h]
    have : ¬ (b ≤ a ∧ a ≤ c) := fun h' => h h'.1
    simp [this]
theorem spec_l6In_eq (a b c : Int) : spec_l6In.f a b c = some (decide (b ≤ a ∧ a ≤ c)) := by
  unfold spec_l6In.f
  by_cases h : a ≥ b
  · rw [if_pos h]
    have : (b ≤ a ∧ a ≤ c) ↔ a ≤ c := ⟨fun h => h.2, fun h' => ⟨h, h'⟩⟩
    simp [this]
  · rw [if_neg h]
    have : ¬ (b ≤ a ∧ a ≤ c) := fun h' => h h'.1
    simp [this]
end Go.Proofs.Yticpnjhkdfdkkaa.Q
namespace Go.Proofs.Yticpnjhkdfdkkaa.Q
open Go.RowKit Go.Proofs.Yticpnjhkdfdkkaa.T Go.Proofs.YticpnjhkdfdkkaaW.PrintWords Go.Proofs.YticpnjhkdfdkkaaW.PrintLast
set_option linter.unusedVariables false
set_option linter.unusedSimpArgs false
theorem rd_nat (l : List Int) (j : Nat) (h : j < l.length) : rd l (j : Int) = l[j] := by
  unfold rd
  rw [Int.toNat_natCast, List.getD_eq_getElem?_getD, List.getElem?_eq_getElem h]
  rfl
theorem drop_int {l : List Int} {i : Nat} (h : i < l.length) : l.drop i = rd l i :: l.drop (i + 1) := by
  rw [List.drop_eq_getElem_cons h, rd_nat l i h]
def ab (l : List Int) : Bool := decide (∀ x ∈ l, 0 ≤ x ∧ x ≤ 255)
theorem ab_cons (x : Int) (l : List Int) : ab (x :: l) = (decide (0 ≤ x ∧ x ≤ 255) && ab l) := by
  rw [Bool.eq_iff_iff]
  simp [ab, List.forall_mem_cons]
theorem ab_nil : ab [] = true := by simp [ab]
theorem isByte_eq (a : Int) : impl_isByte.f a = some (decide (0 ≤ a ∧ a ≤ 255)) := by
  unfold impl_isByte.f
  by_cases h : a ≥ 0
  · rw [if_pos h]
    have : (0 ≤ a ∧ a ≤ 255) ↔ a ≤ 255 := ⟨fun h => h.2, fun h' => ⟨h, h'⟩⟩
    simp [this]
  · rw [if_neg h]
    have : ¬ (0 ≤ a ∧ a ≤ 255) := fun h' => h h'.1
    simp [this]
theorem baseValid_eq (a b : Int) : impl_baseValid.f a b = some (decide ((0 ≤ a ∧ a ≤ 99999) ∧ (0 ≤ b ∧ b ≤ 99999))) := by
  unfold impl_baseValid.f
  rw [impl_within_eq, impl_within_eq]
  by_cases h : 0 ≤ a ∧ a ≤ 99999 <;> simp [h]
theorem idValid_eqB (a : Int) : impl_idValid.f a = some (decide (0 ≤ a ∧ a ≤ 254)) := by
  unfold impl_idValid.f
  rw [impl_within_eq]
  rfl
theorem implAll_loop (l : List Int) (hl : l.length ≤ 1000000000000000) : ∀ (d i : Nat), l.length - i = d → i ≤ l.length → Ev (fun k => impl_allBytes.l0 k l (l.length : Int) (i : Int)) (ab (l.drop i)) := by
  intro d
  induction d with
  | zero =>
    intro i hd hi
    rw [show l.drop i = [] from List.drop_eq_nil_of_le (by omega), ab_nil]
    refine ev_succ ?_
    simp only [impl_allBytes.l0, if_neg (show ¬ (i : Int) < (l.length : Int) by omega)]
    exact ev_some _
  | succ d ih =>
    intro i hd hi
    have e1 : wrap64 ((i : Int) + 1) = ((i + 1 : Nat) : Int) := by rw [wrap_id (by omega) (by omega)]; omega
    rw [drop_int (show i < l.length by omega), ab_cons]
    refine ev_succ ?_
    simp only [impl_allBytes.l0, if_pos (show (i : Int) < (l.length : Int) by omega), if_pos (show (0 : Int) ≤ i by omega), isByte_eq, bsome, decide_eq_true_eq, e1]
    by_cases h : 0 ≤ rd l (i : Int) ∧ rd l (i : Int) ≤ 255
    · simp only [if_pos h, decide_eq_true h, Bool.true_and]
      exact ih (i + 1) (by omega) (by omega)
    · simp only [if_neg h, decide_eq_false h, Bool.false_and]
      exact ev_some _
theorem implAll (l : List Int) (hl : l.length ≤ 1000000000000000) : Ev (fun k => impl_allBytes.f k l) (ab l) := by
  unfold impl_allBytes.f
  have := implAll_loop l hl l.length 0 (by omega) (by omega)
  simpa using this
theorem specAll_loop (l : List Int) (hl : l.length ≤ 1000000000000000) : ∀ (d i : Nat), l.length - i = d → i ≤ l.length → Ev (fun k => spec_l1Ok.l0 k l (i : Int)) (ab (l.drop i)) := by
  intro d
  induction d with
  | zero =>
    intro i hd hi
    rw [show l.drop i = [] from List.drop_eq_nil_of_le (by omega), ab_nil]
    refine ev_succ ?_
    simp only [spec_l1Ok.l0, if_neg (show ¬ (i : Int) < (l.length : Int) by omega)]
    exact ev_some _
  | succ d ih =>
    intro i hd hi
    have e1 : wrap64 ((i : Int) + 1) = ((i + 1 : Nat) : Int) := by rw [wrap_id (by omega) (by omega)]; omega
    rw [drop_int (show i < l.length by omega), ab_cons]
    refine ev_succ ?_
    simp only [spec_l1Ok.l0, if_pos (show (i : Int) < (l.length : Int) by omega), if_pos (show (0 : Int) ≤ i by omega), spec_l6In_eq, bsome, decide_eq_true_eq, e1]
    by_cases h : 0 ≤ rd l (i : Int) ∧ rd l (i : Int) ≤ 255
    · simp only [if_pos h, decide_eq_true h, Bool.true_and]
      exact ih (i + 1) (by omega) (by omega)
    · simp only [if_neg h, decide_eq_false h, Bool.false_and]
      exact ev_some _
theorem specAll (l : List Int) (hl : l.length ≤ 1000000000000000) : Ev (fun k => spec_l1Ok.f k l) (ab l) := by
  unfold spec_l1Ok.f
  have := specAll_loop l hl l.length 0 (by omega) (by omega)
  simpa using this
def pv (has : Bool) (l : List Int) : Bool := if has = true then decide (l.length ≤ 12) && ab l else decide (l.length = 0)
theorem implPart (has : Bool) (l : List Int) (hl : l.length ≤ 1000000000000000) : Ev (fun k => impl_partValid.f k has l) (pv has l) := by
  unfold impl_partValid.f pv
  cases has with
  | true =>
    simp only [if_true]
    by_cases h : (l.length : Int) ≤ 12
    · simp only [if_pos h, decide_eq_true (show l.length ≤ 12 by omega), Bool.true_and]
      exact Ev.bind (implAll l hl) (ev_some _)
    · simp only [if_neg h, decide_eq_false (show ¬ l.length ≤ 12 by omega), Bool.false_and]
      exact ev_some _
  | false =>
    simp only [Bool.false_eq_true, if_false]
    rw [show ((l.length : Int) == 0) = decide (l.length = 0) by rw [Bool.eq_iff_iff]; simp]
    exact ev_some _
theorem specPart (has : Bool) (l : List Int) (hl : l.length ≤ 1000000000000000) : Ev (fun k => spec_l3Part.f k has l) (pv has l) := by
  unfold spec_l3Part.f pv
  cases has with
  | true =>
    simp only [if_true]
    refine Ev.bind (specAll l hl) ?_
    by_cases h : ab l = true
    · simp only [if_pos h, h, Bool.and_true]
      rw [show decide ((l.length : Int) ≤ 12) = decide (l.length ≤ 12) by rw [decide_eq_decide]; omega]
      exact ev_some _
    · simp only [if_neg h, show ab l = false by simpa using h, Bool.and_false]
      exact ev_some _
  | false =>
    simp only [Bool.false_eq_true, if_false]
    by_cases h : l.length = 0
    · simp only [if_pos (show (l.length : Int) = 0 by omega), decide_eq_true h]
      refine Ev.bind (specAll l hl) ?_
      have hn : l = [] := List.length_eq_zero_iff.1 h
      subst hn
      simp only [ab_nil, if_true]
      exact ev_some _
    · simp only [if_neg (show ¬ (l.length : Int) = 0 by omega), decide_eq_false h]
      exact ev_some _
abbrev Rc := S34
abbrev rr (l : List Rc) (i : Int) : Rc := rd_T34 l i
theorem rr_nat (l : List Rc) (j : Nat) (h : j < l.length) : rr l (j : Int) = l[j] := by
  unfold rr rd_T34
  rw [Int.toNat_natCast, List.getD_eq_getElem?_getD, List.getElem?_eq_getElem h]
  rfl
def smallR (r : Rc) : Prop := r.f3.length ≤ 1000000000000000 ∧ r.f5.length ≤ 1000000000000000
def smallRs (l : List Rc) : Prop := l.length ≤ 1000000000000000 ∧ ∀ r ∈ l, smallR r
theorem smallRs_at {l : List Rc} (h : smallRs l) (j : Nat) (hj : j < l.length) : smallR (rr l (j : Int)) := by
  rw [rr_nat l j hj]
  exact h.2 _ (List.getElem_mem hj)
def rv (r : Rc) : Bool := decide ((0 ≤ r.f0 ∧ r.f0 ≤ 99999) ∧ (0 ≤ r.f1 ∧ r.f1 ≤ 99999)) && (pv r.f2 r.f3 && pv r.f4 r.f5)
theorem implRec (r : Rc) (h : smallR r) : Ev (fun k => impl_RecordValid.f k r.f0 r.f1 r.f2 r.f3 r.f4 r.f5) (rv r) := by
  unfold impl_RecordValid.f rv
  simp only [baseValid_eq, bsome, decide_eq_true_eq]
  by_cases h0 : (0 ≤ r.f0 ∧ r.f0 ≤ 99999) ∧ (0 ≤ r.f1 ∧ r.f1 ≤ 99999)
  · simp only [if_pos h0, decide_eq_true h0, Bool.true_and]
    refine Ev.bind (implPart _ _ h.1) ?_
    by_cases h1 : pv r.f2 r.f3 = true
    · simp only [if_pos h1, h1, Bool.true_and]
      exact Ev.bind (implPart _ _ h.2) (ev_some _)
    · simp only [if_neg h1, show pv r.f2 r.f3 = false by simpa using h1, Bool.false_and]
      exact ev_some _
  · simp only [if_neg h0, decide_eq_false h0, Bool.false_and]
    exact ev_some _
theorem specRec (r : Rc) (h : smallR r) : Ev (fun k => spec_RecordValid.f k r.f0 r.f1 r.f2 r.f3 r.f4 r.f5) (rv r) := by
  unfold spec_RecordValid.f rv
  simp only [spec_l6In_eq, bsome, decide_eq_true_eq]
  by_cases h0 : 0 ≤ r.f0 ∧ r.f0 ≤ 99999
  · by_cases h1 : 0 ≤ r.f1 ∧ r.f1 ≤ 99999
    · simp only [if_pos h0, if_pos h1, decide_eq_true (show (0 ≤ r.f0 ∧ r.f0 ≤ 99999) ∧ (0 ≤ r.f1 ∧ r.f1 ≤ 99999) from ⟨h0, h1⟩), Bool.true_and]
      refine Ev.bind (specPart _ _ h.1) ?_
      by_cases h2 : pv r.f2 r.f3 = true
      · simp only [if_pos h2, h2, Bool.true_and]
        exact Ev.bind (specPart _ _ h.2) (ev_some _)
      · simp only [if_neg h2, show pv r.f2 r.f3 = false by simpa using h2, Bool.false_and]
        exact ev_some _
    · simp only [if_pos h0, if_neg h1, decide_eq_false (show ¬ ((0 ≤ r.f0 ∧ r.f0 ≤ 99999) ∧ (0 ≤ r.f1 ∧ r.f1 ≤ 99999)) from fun h => h1 h.2), Bool.false_and]
      exact ev_some _
  · simp only [if_neg h0, decide_eq_false (show ¬ ((0 ≤ r.f0 ∧ r.f0 ≤ 99999) ∧ (0 ≤ r.f1 ∧ r.f1 ≤ 99999)) from fun h => h0 h.1), Bool.false_and]
    exact ev_some _
def RF (l : List Rc) (i : Nat) : Prop := ∀ j, i ≤ j → j < l.length → rv (rr l j) = true ∧ (0 < j → (rr l ((j : Int) - 1)).f0 < (rr l j).f0)
theorem RF_end {l : List Rc} {i : Nat} (h : l.length ≤ i) : RF l i := fun j h1 h2 => by omega
theorem RF_step {l : List Rc} {i : Nat} (h : i < l.length) : RF l i ↔ (rv (rr l i) = true ∧ (0 < i → (rr l ((i : Int) - 1)).f0 < (rr l i).f0)) ∧ RF l (i + 1) := by
  constructor
  · intro hv
    exact ⟨hv i (Nat.le_refl _) h, fun j h1 h2 => hv j (by omega) h2⟩
  · rintro ⟨h1, h2⟩ j h3 h4
    by_cases e : j = i
    · subst e; exact h1
    · exact h2 j (by omega) h4
theorem implRecs_loop (l : List Rc) (hl : smallRs l) (a0 a1 : Bool) (a2 a3 a4 : Int) : ∀ (d i : Nat), l.length - i = d → i ≤ l.length → Evs (fun k => impl_BatchValid.l0 k l (l.length : Int) (i : Int) a0 a1 a2 a3 a4 l) (fun b => b = true ↔ RF l i) := by
  intro d
  induction d with
  | zero =>
    intro i hd hi
    refine Evs.succ ?_
    simp only [impl_BatchValid.l0, if_neg (show ¬ (i : Int) < (l.length : Int) by omega)]
    exact Evs.done (by simp; exact RF_end (by omega))
  | succ d ih =>
    intro i hd hi
    have hll := hl.1
    have hn := ih (i + 1) (by omega) (by omega)
    have e1 : wrap64 ((i : Int) + 1) = ((i + 1 : Nat) : Int) := by rw [wrap_id (by omega) (by omega)]; omega
    have e2 : wrap64 ((i : Int) - 1) = (i : Int) - 1 := wrap_id (by omega) (by omega)
    rw [RF_step (show i < l.length by omega)]
    refine Evs.succ ?_
    simp only [impl_BatchValid.l0, if_pos (show (i : Int) < (l.length : Int) by omega), if_pos (show (0 : Int) ≤ i by omega), e1, e2]
    refine Evs.bind (Evs.of (implRec (rr l (i : Int)) (smallRs_at hl i (by omega))) rfl : Evs _ (fun x => x = rv (rr l (i : Int)))) ?_
    rintro _ rfl
    by_cases h1 : rv (rr l (i : Int)) = true
    · simp only [if_pos h1]
      by_cases h0 : (i : Int) > 0
      · simp only [if_pos h0, if_pos (show 0 ≤ (i : Int) - 1 by omega), if_pos (show (i : Int) - 1 < (l.length : Int) by omega)]
        by_cases h2 : (rr l ((i : Int) - 1)).f0 ≥ (rr l (i : Int)).f0
        · simp only [if_pos h2]
          refine Evs.done ?_
          simp only [Bool.false_eq_true, false_iff]
          rintro ⟨⟨_, h3⟩, _⟩
          have := h3 (by omega)
          omega
        · simp only [if_neg h2]
          refine hn.mono fun b hb => ?_
          rw [hb]
          exact ⟨fun h => ⟨⟨h1, fun _ => by omega⟩, h⟩, fun h => h.2⟩
      · simp only [if_neg h0]
        refine hn.mono fun b hb => ?_
        rw [hb]
        exact ⟨fun h => ⟨⟨h1, fun h' => absurd h' (by omega)⟩, h⟩, fun h => h.2⟩
    · simp only [if_neg h1]
      exact Evs.done (by simp only [Bool.false_eq_true, false_iff]; exact fun h => h1 h.1.1)
theorem specRecs_loop (l : List Rc) (hl : smallRs l) : ∀ (d i : Nat), l.length - i = d → i ≤ l.length → Evs (fun k => spec_l5Records.l0 k l (i : Int)) (fun b => b = true ↔ RF l i ∧ 1 ≤ l.length ∧ l.length ≤ 6) := by
  intro d
  induction d with
  | zero =>
    intro i hd hi
    refine Evs.succ ?_
    simp only [spec_l5Records.l0, if_neg (show ¬ (i : Int) < (l.length : Int) by omega), spec_l6In_eq, bsome]
    exact Evs.done (by simp only [decide_eq_true_eq]; exact ⟨fun h => ⟨RF_end (by omega), by omega, by omega⟩, fun h => by have := h.2; omega⟩)
  | succ d ih =>
    intro i hd hi
    have hll := hl.1
    have hn := ih (i + 1) (by omega) (by omega)
    have e1 : wrap64 ((i : Int) + 1) = ((i + 1 : Nat) : Int) := by rw [wrap_id (by omega) (by omega)]; omega
    have e2 : wrap64 ((i : Int) - 1) = (i : Int) - 1 := wrap_id (by omega) (by omega)
    rw [RF_step (show i < l.length by omega)]
    refine Evs.succ ?_
    simp only [spec_l5Records.l0, if_pos (show (i : Int) < (l.length : Int) by omega), if_pos (show (0 : Int) ≤ i by omega), e1, e2]
    refine Evs.bind (Evs.of (specRec (rr l (i : Int)) (smallRs_at hl i (by omega))) rfl : Evs _ (fun x => x = rv (rr l (i : Int)))) ?_
    rintro _ rfl
    by_cases h1 : rv (rr l (i : Int)) = true
    · simp only [if_pos h1]
      by_cases h0 : (i : Int) > 0
      · simp only [if_pos h0, if_pos (show 0 ≤ (i : Int) - 1 by omega), if_pos (show (i : Int) - 1 < (l.length : Int) by omega)]
        by_cases h2 : (rr l ((i : Int) - 1)).f0 ≥ (rr l (i : Int)).f0
        · simp only [if_pos h2]
          refine Evs.done ?_
          simp only [Bool.false_eq_true, false_iff]
          rintro ⟨⟨⟨_, h3⟩, _⟩, _⟩
          have := h3 (by omega)
          omega
        · simp only [if_neg h2]
          refine hn.mono fun b hb => ?_
          rw [hb]
          exact ⟨fun h => ⟨⟨⟨h1, fun _ => by omega⟩, h.1⟩, h.2⟩, fun h => ⟨h.1.2, h.2⟩⟩
      · simp only [if_neg h0]
        refine hn.mono fun b hb => ?_
        rw [hb]
        exact ⟨fun h => ⟨⟨⟨h1, fun h' => absurd h' (by omega)⟩, h.1⟩, h.2⟩, fun h => ⟨h.1.2, h.2⟩⟩
    · simp only [if_neg h1]
      exact Evs.done (by simp only [Bool.false_eq_true, false_iff]; exact fun h => h1 h.1.1.1)
def VB (a1 : Bool) (a2 a3 a4 : Int) (l : List Rc) : Prop :=
  (if a2 = 255 then a3 = 0 ∧ a4 = 0 ∧ a1 = false else (0 ≤ a2 ∧ a2 ≤ 254) ∧ (0 ≤ a3 ∧ a3 ≤ 99) ∧ (0 ≤ a4 ∧ a4 ≤ 9999)) ∧ (1 ≤ l.length ∧ l.length ≤ 6) ∧ (a1 = true → l.length = 1) ∧ RF l 0
theorem implB_j0 (a0 a1 : Bool) (a2 a3 a4 : Int) (l : List Rc) (hl : smallRs l) : Evs (fun k => impl_BatchValid.j0 k a0 a1 a2 a3 a4 l) (fun b => b = true ↔ (1 ≤ l.length ∧ l.length ≤ 6) ∧ (a1 = true → l.length = 1) ∧ RF l 0) := by
  have hr := implRecs_loop l hl a0 a1 a2 a3 a4 l.length 0 (by omega) (by omega)
  refine Evs.succ ?_
  simp only [impl_BatchValid.j0, impl_within_eq, bsome, decide_eq_true_eq]
  by_cases h : 1 ≤ (l.length : Int) ∧ (l.length : Int) ≤ 6
  · simp only [if_pos h]
    cases a1 with
    | true =>
      simp only [if_true]
      refine Evs.succ ?_
      by_cases h1 : l.length = 1
      · simp only [impl_BatchValid.j1, show ((l.length : Int) != 1) = false by rw [h1]; rfl, Bool.false_eq_true, if_false]
        refine hr.mono fun b hb => ?_
        rw [hb]
        exact ⟨fun h2 => ⟨by omega, fun _ => h1, h2⟩, fun h2 => h2.2.2⟩
      · simp only [impl_BatchValid.j1, show ((l.length : Int) != 1) = true by simp; omega, if_true]
        exact Evs.done (by simp only [Bool.false_eq_true, false_iff]; exact fun h2 => h1 (h2.2.1 trivial))
    | false =>
      simp only [Bool.false_eq_true, if_false]
      refine Evs.succ ?_
      simp only [impl_BatchValid.j1, Bool.false_eq_true, if_false]
      refine hr.mono fun b hb => ?_
      rw [hb]
      exact ⟨fun h2 => ⟨by omega, (fun h3 => h3.elim), h2⟩, fun h2 => h2.2.2⟩
  · simp only [if_neg h]
    refine Evs.succ ?_
    simp only [impl_BatchValid.j1, if_true]
    exact Evs.done (by simp only [Bool.false_eq_true, false_iff]; exact fun h2 => h ⟨by have := h2.1.1; omega, by have := h2.1.2; omega⟩)
theorem implB_evs (a0 a1 : Bool) (a2 a3 a4 : Int) (l : List Rc) (hl : smallRs l) : Evs (fun k => impl_BatchValid.f k a0 a1 a2 a3 a4 l) (fun b => b = true ↔ VB a1 a2 a3 a4 l) := by
  have hj := implB_j0 a0 a1 a2 a3 a4 l hl
  unfold impl_BatchValid.f VB
  by_cases h : a2 = 255
  · simp only [if_pos h]
    by_cases h3 : a3 = 0
    · simp only [if_pos h3]
      by_cases h4 : a4 = 0
      · simp only [if_pos h4]
        cases a1 with
        | true =>
          simp only [if_true]
          exact Evs.done (by simp)
        | false =>
          simp only [Bool.false_eq_true, if_false]
          refine hj.mono fun b hb => ?_
          rw [hb]
          exact ⟨fun h2 => ⟨⟨h3, h4, trivial⟩, h2.1, (fun h5 => h5.elim), h2.2.2⟩, fun h2 => ⟨h2.2.1, (fun h5 => by cases h5), h2.2.2.2⟩⟩
      · simp only [if_neg h4]
        exact Evs.done (by simp only [Bool.false_eq_true, false_iff]; exact fun h2 => h4 h2.1.2.1)
    · simp only [if_neg h3]
      exact Evs.done (by simp only [Bool.false_eq_true, false_iff]; exact fun h2 => h3 h2.1.1)
  · simp only [if_neg h, idValid_eqB, impl_within_eq, bsome, decide_eq_true_eq]
    by_cases h2 : 0 ≤ a2 ∧ a2 ≤ 254
    · simp only [if_pos h2]
      by_cases h3 : 0 ≤ a3 ∧ a3 ≤ 99
      · simp only [if_pos h3]
        by_cases h4 : 0 ≤ a4 ∧ a4 ≤ 9999
        · simp only [if_pos h4]
          refine hj.mono fun b hb => ?_
          rw [hb]
          exact ⟨fun h5 => ⟨⟨h2, h3, h4⟩, h5⟩, fun h5 => h5.2⟩
        · simp only [if_neg h4]
          exact Evs.done (by simp only [Bool.false_eq_true, false_iff]; exact fun h5 => h4 h5.1.2.2)
      · simp only [if_neg h3]
        exact Evs.done (by simp only [Bool.false_eq_true, false_iff]; exact fun h5 => h3 h5.1.2.1)
    · simp only [if_neg h2]
      exact Evs.done (by simp only [Bool.false_eq_true, false_iff]; exact fun h5 => h2 h5.1.1)
theorem specB_j0_true (a0 a1 : Bool) (a2 a3 a4 : Int) (l : List Rc) : Evs (fun k => spec_BatchValid.j0 k true a0 a1 a2 a3 a4 l) (fun b => b = false) := by
  refine Evs.succ ?_
  simp only [spec_BatchValid.j0, if_true]
  exact Evs.done rfl
theorem specB_evs (a0 a1 : Bool) (a2 a3 a4 : Int) (l : List Rc) (hl : smallRs l) : Evs (fun k => spec_BatchValid.f k a0 a1 a2 a3 a4 l) (fun b => b = true ↔ VB a1 a2 a3 a4 l) := by
  have hr := specRecs_loop l hl l.length 0 (by omega) (by omega)
  have no : ∀ {P : Prop}, ¬ P → ∀ b : Bool, b = false → (b = true ↔ P) := fun hP b hb => by rw [hb]; simp only [Bool.false_eq_true, false_iff]; exact hP
  unfold spec_BatchValid.f
  unfold spec_l5Records.f
  refine Evs.bind hr ?_
  intro t ht
  by_cases h : t = true
  · obtain ⟨hRF, hl1⟩ := ht.1 h
    simp only [if_pos h, spec_l6In_eq, bsome, decide_eq_true_eq]
    by_cases h2 : 0 ≤ a2 ∧ a2 ≤ 255
    · simp only [if_pos h2]
      by_cases h3 : 0 ≤ a3 ∧ a3 ≤ 99
      · simp only [if_pos h3]
        by_cases h4 : 0 ≤ a4 ∧ a4 ≤ 9999
        · simp only [decide_eq_true h4, Bool.not_true]
          refine Evs.succ ?_
          simp only [spec_BatchValid.j0, Bool.false_eq_true, if_false]
          unfold VB
          by_cases h5 : a2 = 255
          · simp only [if_pos h5]
            by_cases h6 : a3 = 0
            · simp only [if_pos h6]
              by_cases h7 : a4 = 0
              · simp only [if_pos h7]
                refine Evs.done ?_
                cases a1
                · simp; exact ⟨⟨h6, h7⟩, hl1, hRF⟩
                · simp
              · simp only [if_neg h7]
                exact Evs.done (no (fun h8 => h7 h8.1.2.1) _ rfl)
            · simp only [if_neg h6]
              exact Evs.done (no (fun h8 => h6 h8.1.1) _ rfl)
          · simp only [if_neg h5]
            cases a1 with
            | true =>
              simp only [if_true]
              refine Evs.done ?_
              simp only [beq_iff_eq]
              exact ⟨fun h8 => ⟨⟨by omega, h3, h4⟩, hl1, fun _ => by omega, hRF⟩, fun h8 => by have := h8.2.2.1 trivial; omega⟩
            | false =>
              simp only [Bool.false_eq_true, if_false]
              refine Evs.done ?_
              simp only [true_iff]
              exact ⟨⟨by omega, h3, h4⟩, hl1, (fun h8 => h8.elim), hRF⟩
        · simp only [decide_eq_false h4, Bool.not_false]
          refine (specB_j0_true a0 a1 a2 a3 a4 l).mono (no ?_)
          unfold VB
          split
          · rintro ⟨⟨_, h8, _⟩, _⟩
            exact h4 (by omega)
          · exact fun h8 => h4 h8.1.2.2
      · simp only [if_neg h3]
        refine (specB_j0_true a0 a1 a2 a3 a4 l).mono (no ?_)
        unfold VB
        split
        · rintro ⟨⟨h8, _, _⟩, _⟩
          exact h3 (by omega)
        · exact fun h8 => h3 h8.1.2.1
    · simp only [if_neg h2]
      refine (specB_j0_true a0 a1 a2 a3 a4 l).mono (no ?_)
      unfold VB
      split
      · rename_i h8
        exact fun _ => h2 (by omega)
      · exact fun h8 => h2 (by have := h8.1.1; omega)
  · simp only [if_neg h]
    refine (specB_j0_true a0 a1 a2 a3 a4 l).mono (no ?_)
    exact fun h8 => h (ht.2 ⟨h8.2.2.2, h8.2.1⟩)
open Classical in
noncomputable def vb (a1 : Bool) (a2 a3 a4 : Int) (l : List Rc) : Bool := decide (VB a1 a2 a3 a4 l)
theorem vb_iff (a1 : Bool) (a2 a3 a4 : Int) (l : List Rc) : vb a1 a2 a3 a4 l = true ↔ VB a1 a2 a3 a4 l := by unfold vb; simp
theorem implB (a0 a1 : Bool) (a2 a3 a4 : Int) (l : List Rc) (hl : smallRs l) : Ev (fun k => impl_BatchValid.f k a0 a1 a2 a3 a4 l) (vb a1 a2 a3 a4 l) := by
  obtain ⟨b, hb, h⟩ := implB_evs a0 a1 a2 a3 a4 l hl
  rw [show vb a1 a2 a3 a4 l = b by rw [Bool.eq_iff_iff, vb_iff, h]]
  exact hb
theorem specB (a0 a1 : Bool) (a2 a3 a4 : Int) (l : List Rc) (hl : smallRs l) : Ev (fun k => spec_BatchValid.f k a0 a1 a2 a3 a4 l) (vb a1 a2 a3 a4 l) := by
  obtain ⟨b, hb, h⟩ := specB_evs a0 a1 a2 a3 a4 l hl
  rw [show vb a1 a2 a3 a4 l = b by rw [Bool.eq_iff_iff, vb_iff, h]]
  exact hb
end Go.Proofs.Yticpnjhkdfdkkaa.Q
namespace Go.Proofs.Yticpnjhkdfdkkaa.Q
open Go.RowKit Go.Proofs.Yticpnjhkdfdkkaa.T Go.Proofs.YticpnjhkdfdkkaaW.PrintWords Go.Proofs.YticpnjhkdfdkkaaW.PrintLast
set_option linter.unusedVariables false
set_option linter.unusedSimpArgs false
abbrev Bt := S27
abbrev rb (l : List Bt) (i : Int) : Bt := rd_T27 l i
theorem rb_nat (l : List Bt) (j : Nat) (h : j < l.length) : rb l (j : Int) = l[j] := by
  unfold rb rd_T27
  rw [Int.toNat_natCast, List.getD_eq_getElem?_getD, List.getElem?_eq_getElem h]
  rfl
def smallBs (l : List Bt) : Prop := l.length ≤ 2000000 ∧ ∀ b ∈ l, smallRs b.f5
theorem smallBs_at {l : List Bt} (h : smallBs l) (j : Nat) (hj : j < l.length) : smallRs (rb l (j : Int)).f5 := by
  rw [rb_nat l j hj]
  exact h.2 _ (List.getElem_mem hj)
def fOff (b : Bt) : Int := (rr b.f5 0).f0
def lOff (b : Bt) : Int := (rr b.f5 ((b.f5.length : Int) - 1)).f0
def vB (b : Bt) : Prop := VB b.f1 b.f2 b.f3 b.f4 b.f5
theorem vB_pos {b : Bt} (h : vB b) : 1 ≤ b.f5.length ∧ b.f5.length ≤ 6 := h.2.1
theorem first_eq {b : Bt} (h : vB b) : impl_Batch_first.f b.f0 b.f1 b.f2 b.f3 b.f4 b.f5 = some (fOff b) := by
  have := vB_pos h
  unfold impl_Batch_first.f
  rw [if_pos (show 0 < (b.f5.length : Int) by omega)]
  rfl
theorem last_eq {b : Bt} (h : vB b) : impl_Batch_last.f b.f0 b.f1 b.f2 b.f3 b.f4 b.f5 = some (lOff b) := by
  have := vB_pos h
  have e : wrap64 ((b.f5.length : Int) - 1) = (b.f5.length : Int) - 1 := wrap_id (by omega) (by omega)
  unfold impl_Batch_last.f
  rw [e, if_pos (show 0 ≤ (b.f5.length : Int) - 1 by omega), if_pos (show (b.f5.length : Int) - 1 < (b.f5.length : Int) by omega)]
  rfl
theorem lastS_eq {b : Bt} (h : vB b) : spec_l12Last.f b.f0 b.f1 b.f2 b.f3 b.f4 b.f5 = some (lOff b) := by
  have := vB_pos h
  have e : wrap64 ((b.f5.length : Int) - 1) = (b.f5.length : Int) - 1 := wrap_id (by omega) (by omega)
  unfold spec_l12Last.f
  rw [e, if_pos (show 0 ≤ (b.f5.length : Int) - 1 by omega), if_pos (show (b.f5.length : Int) - 1 < (b.f5.length : Int) by omega)]
  rfl
theorem RF_lt {l : List Rc} (h : RF l 0) : ∀ (d i : Nat), i + d + 1 < l.length → (rr l (i : Int)).f0 < (rr l ((i + d + 1 : Nat) : Int)).f0
  | 0, i, hi => by
    have := (h (i + 1) (by omega) hi).2 (by omega)
    rw [show ((i + 1 : Nat) : Int) - 1 = (i : Int) by omega] at this
    exact this
  | d + 1, i, hi => by
    have h1 := RF_lt h d i (by omega)
    have := (h (i + d + 2) (by omega) (by omega)).2 (by omega)
    rw [show ((i + d + 2 : Nat) : Int) - 1 = ((i + d + 1 : Nat) : Int) by omega] at this
    exact Int.lt_trans h1 this
theorem fOff_le {b : Bt} (h : vB b) : fOff b ≤ lOff b := by
  have hp := vB_pos h
  unfold fOff lOff
  by_cases h1 : b.f5.length = 1
  · rw [h1]
    exact Int.le_refl _
  · have := RF_lt h.2.2.2 (b.f5.length - 2) 0 (by omega)
    rw [show ((0 + (b.f5.length - 2) + 1 : Nat) : Int) = (b.f5.length : Int) - 1 by omega] at this
    exact Int.le_of_lt this
def LF (l : List Bt) (i : Nat) : Prop := ∀ j, i ≤ j → j < l.length → vB (rb l j) ∧ (0 < j → lOff (rb l ((j : Int) - 1)) < fOff (rb l j))
def VL (l : List Bt) : Prop := l.length ≤ 8 ∧ LF l 0
theorem LF_end {l : List Bt} {i : Nat} (h : l.length ≤ i) : LF l i := fun j h1 h2 => by omega
theorem LF_step {l : List Bt} {i : Nat} (h : i < l.length) : LF l i ↔ (vB (rb l i) ∧ (0 < i → lOff (rb l ((i : Int) - 1)) < fOff (rb l i))) ∧ LF l (i + 1) := by
  constructor
  · intro hl
    exact ⟨hl i (Nat.le_refl _) h, fun j h1 h2 => hl j (by omega) h2⟩
  · rintro ⟨h0, h1⟩ j hj1 hj2
    by_cases he : j = i
    · subst he; exact h0
    · exact h1 j (by omega) hj2
open Classical in
noncomputable def vl (l : List Bt) : Bool := decide (VL l)
theorem vl_iff (l : List Bt) : vl l = true ↔ VL l := by unfold vl; simp
theorem vl_of {b : Bool} {l : List Bt} (h : b = true ↔ VL l) : b = vl l := by
  rw [Bool.eq_iff_iff, h, vl_iff]
theorem vb_vB (b : Bt) : vb b.f1 b.f2 b.f3 b.f4 b.f5 = true ↔ vB b := vb_iff _ _ _ _ _
theorem implLog_loop (l : List Bt) (hl : smallBs l) : ∀ (d i : Nat), l.length - i = d → i ≤ l.length → (∀ j, j < i → vB (rb l (j : Int))) → Evs (fun k => impl_LogValid.l0 k l l (l.length : Int) (i : Int)) (fun b => b = true ↔ LF l i) := by
  have hs := hl.1
  intro d
  induction d with
  | zero =>
    intro i hd hi _
    refine Evs.succ ?_
    simp only [impl_LogValid.l0, if_neg (show ¬ (i : Int) < (l.length : Int) by omega)]
    exact Evs.done ⟨fun _ => LF_end (by omega), fun _ => rfl⟩
  | succ d ih =>
    intro i hd hi hv
    have hlt : i < l.length := by omega
    have e1 : wrap64 ((i : Int) + 1) = ((i + 1 : Nat) : Int) := by rw [wrap_id (by omega) (by omega)]; omega
    refine Evs.succ ?_
    simp only [impl_LogValid.l0, if_pos (show (i : Int) < (l.length : Int) by omega), if_pos (show (0 : Int) ≤ (i : Int) by omega), e1]
    refine Evs.bind (Evs.of (implB (rb l i).f0 (rb l i).f1 (rb l i).f2 (rb l i).f3 (rb l i).f4 (rb l i).f5 (smallBs_at hl i hlt)) rfl) ?_
    rintro _ rfl
    by_cases hb : vB (rb l i)
    · have hb2 := (vb_vB (rb l i)).2 hb
      simp only [if_pos hb2]
      have hv2 : ∀ j, j < i + 1 → vB (rb l (j : Int)) := fun j hj => by
        by_cases he : j = i
        · subst he; exact hb
        · exact hv j (by omega)
      by_cases h0 : i = 0
      · subst h0
        simp only [if_neg (show ¬ ((0 : Nat) : Int) > 0 by omega)]
        refine (ih 1 (by omega) (by omega) hv2).mono fun b hb3 => ?_
        rw [hb3, LF_step hlt]
        exact ⟨fun h => ⟨⟨hb, fun h => absurd h (by omega)⟩, h⟩, fun h => h.2⟩
      · have e2 : wrap64 ((i : Int) - 1) = (i : Int) - 1 := wrap_id (by omega) (by omega)
        have hp : vB (rb l ((i : Int) - 1)) := by have := hv (i - 1) (by omega); rwa [show ((i - 1 : Nat) : Int) = (i : Int) - 1 by omega] at this
        have f1 := last_eq hp
        have f2 := first_eq hb
        simp only [if_pos (show (i : Int) > 0 by omega), e2, if_pos (show 0 ≤ (i : Int) - 1 by omega), if_pos (show (i : Int) - 1 < (l.length : Int) by omega)]
        rw [show (rd_T27 l ((i : Int) - 1)) = rb l ((i : Int) - 1) from rfl, show (rd_T27 l (i : Int)) = rb l (i : Int) from rfl, f1, f2]
        simp only [bsome]
        by_cases hc : lOff (rb l ((i : Int) - 1)) ≥ fOff (rb l i)
        · simp only [if_pos hc]
          refine Evs.done ?_
          rw [LF_step hlt]
          simp only [Bool.false_eq_true, false_iff]
          intro h
          have := h.1.2 (by omega)
          omega
        · simp only [if_neg hc]
          refine (ih (i + 1) (by omega) (by omega) hv2).mono fun b hb3 => ?_
          rw [hb3, LF_step hlt]
          exact ⟨fun h => ⟨⟨hb, fun _ => by omega⟩, h⟩, fun h => h.2⟩
    · have hb2 : ¬ vb (rb l i).f1 (rb l i).f2 (rb l i).f3 (rb l i).f4 (rb l i).f5 = true := fun h => hb ((vb_vB (rb l i)).1 h)
      simp only [if_neg hb2]
      refine Evs.done ?_
      rw [LF_step hlt]
      simp only [Bool.false_eq_true, false_iff]
      exact fun h => hb h.1.1
theorem implLog (l : List Bt) (hl : smallBs l) : Ev (fun k => impl_LogValid.f k l) (vl l) := by
  have hs := hl.1
  unfold impl_LogValid.f
  by_cases h : (l.length : Int) > 8
  · simp only [if_pos h]
    have : vl l = false := by rw [← Bool.not_eq_true, vl_iff]; exact fun h2 => by have := h2.1; omega
    rw [this]
    exact ev_some _
  · simp only [if_neg h]
    obtain ⟨b, h1, h2⟩ := implLog_loop l hl l.length 0 (by omega) (by omega) (fun j hj => by omega)
    have : b = vl l := vl_of (h2.trans ⟨fun h3 => ⟨by omega, h3⟩, fun h3 => h3.2⟩)
    rw [← this]
    exact h1
theorem specLog_loop (l : List Bt) (hl : smallBs l) : ∀ (d i : Nat), l.length - i = d → i ≤ l.length → (∀ j, j < i → vB (rb l (j : Int))) → Evs (fun k => spec_LogValid.l0 k l (i : Int)) (fun b => b = true ↔ LF l i ∧ l.length ≤ 8) := by
  have hs := hl.1
  intro d
  induction d with
  | zero =>
    intro i hd hi _
    refine Evs.succ ?_
    simp only [spec_LogValid.l0, if_neg (show ¬ (i : Int) < (l.length : Int) by omega)]
    refine Evs.done ?_
    rw [decide_eq_true_eq]
    exact ⟨fun h => ⟨LF_end (by omega), by omega⟩, fun h => by omega⟩
  | succ d ih =>
    intro i hd hi hv
    have hlt : i < l.length := by omega
    have e1 : wrap64 ((i : Int) + 1) = ((i + 1 : Nat) : Int) := by rw [wrap_id (by omega) (by omega)]; omega
    refine Evs.succ ?_
    simp only [spec_LogValid.l0, if_pos (show (i : Int) < (l.length : Int) by omega), if_pos (show (0 : Int) ≤ (i : Int) by omega), e1]
    refine Evs.bind (Evs.of (specB (rb l i).f0 (rb l i).f1 (rb l i).f2 (rb l i).f3 (rb l i).f4 (rb l i).f5 (smallBs_at hl i hlt)) rfl) ?_
    rintro _ rfl
    by_cases hb : vB (rb l i)
    · have hb2 := (vb_vB (rb l i)).2 hb
      simp only [if_pos hb2]
      have hv2 : ∀ j, j < i + 1 → vB (rb l (j : Int)) := fun j hj => by
        by_cases he : j = i
        · subst he; exact hb
        · exact hv j (by omega)
      by_cases h0 : i = 0
      · subst h0
        simp only [if_neg (show ¬ ((0 : Nat) : Int) > 0 by omega)]
        refine (ih 1 (by omega) (by omega) hv2).mono fun b hb3 => ?_
        rw [hb3, LF_step hlt]
        exact ⟨fun h => ⟨⟨⟨hb, fun h => absurd h (by omega)⟩, h.1⟩, h.2⟩, fun h => ⟨h.1.2, h.2⟩⟩
      · have e2 : wrap64 ((i : Int) - 1) = (i : Int) - 1 := wrap_id (by omega) (by omega)
        have hp : vB (rb l ((i : Int) - 1)) := by have := hv (i - 1) (by omega); rwa [show ((i - 1 : Nat) : Int) = (i : Int) - 1 by omega] at this
        have f1 := lastS_eq hp
        have hpos := (vB_pos hb).1
        simp only [if_pos (show (i : Int) > 0 by omega), e2, if_pos (show 0 ≤ (i : Int) - 1 by omega), if_pos (show (i : Int) - 1 < (l.length : Int) by omega)]
        rw [show (rd_T27 l ((i : Int) - 1)) = rb l ((i : Int) - 1) from rfl, show (rd_T27 l (i : Int)) = rb l (i : Int) from rfl, f1]
        simp only [bsome, if_pos (show 0 < ((rb l (i : Int)).f5.length : Int) by omega)]
        by_cases hc : lOff (rb l ((i : Int) - 1)) ≥ fOff (rb l i)
        · simp only [if_pos (show lOff (rb l ((i : Int) - 1)) ≥ (rd_T34 (rb l (i : Int)).f5 0).f0 from hc)]
          refine Evs.done ?_
          rw [LF_step hlt]
          simp only [Bool.false_eq_true, false_iff]
          intro h
          have := h.1.1.2 (by omega)
          omega
        · simp only [if_neg (show ¬ lOff (rb l ((i : Int) - 1)) ≥ (rd_T34 (rb l (i : Int)).f5 0).f0 from hc)]
          refine (ih (i + 1) (by omega) (by omega) hv2).mono fun b hb3 => ?_
          rw [hb3, LF_step hlt]
          exact ⟨fun h => ⟨⟨⟨hb, fun _ => by omega⟩, h.1⟩, h.2⟩, fun h => ⟨h.1.2, h.2⟩⟩
    · have hb2 : ¬ vb (rb l i).f1 (rb l i).f2 (rb l i).f3 (rb l i).f4 (rb l i).f5 = true := fun h => hb ((vb_vB (rb l i)).1 h)
      simp only [if_neg hb2]
      refine Evs.done ?_
      rw [LF_step hlt]
      simp only [Bool.false_eq_true, false_iff]
      exact fun h => hb h.1.1.1
theorem specLog (l : List Bt) (hl : smallBs l) : Ev (fun k => spec_LogValid.f k l) (vl l) := by
  unfold spec_LogValid.f
  obtain ⟨b, h1, h2⟩ := specLog_loop l hl l.length 0 (by omega) (by omega) (fun j hj => by omega)
  have : b = vl l := vl_of (h2.trans ⟨fun h3 => ⟨h3.2, h3.1⟩, fun h3 => ⟨h3.2, h3.1⟩⟩)
  rw [← this]
  exact h1
theorem VL_at {l : List Bt} (h : VL l) (j : Nat) (hj : j < l.length) : vB (rb l (j : Int)) := (h.2 j (Nat.zero_le _) hj).1
theorem VL_lt {l : List Bt} (h : VL l) : ∀ (d i : Nat), i + d + 1 < l.length → fOff (rb l (i : Int)) < fOff (rb l ((i + d + 1 : Nat) : Int))
  | 0, i, hi => by
    have h1 := (h.2 (i + 1) (Nat.zero_le _) hi).2 (by omega)
    rw [show ((i + 1 : Nat) : Int) - 1 = (i : Int) by omega] at h1
    have := fOff_le (VL_at h i (by omega))
    exact Int.lt_of_le_of_lt this h1
  | d + 1, i, hi => by
    have h0 := VL_lt h d i (by omega)
    have h1 := (h.2 (i + d + 2) (Nat.zero_le _) (by omega)).2 (by omega)
    rw [show ((i + d + 2 : Nat) : Int) - 1 = ((i + d + 1 : Nat) : Int) by omega] at h1
    have := fOff_le (VL_at h (i + d + 1) (by omega))
    exact Int.lt_trans h0 (Int.lt_of_le_of_lt this h1)
theorem VL_lt' {l : List Bt} (h : VL l) {i j : Nat} (hij : i < j) (hj : j < l.length) : fOff (rb l (i : Int)) < fOff (rb l (j : Int)) := by
  have := VL_lt h (j - i - 1) i (by omega)
  rwa [show i + (j - i - 1) + 1 = j by omega] at this
end Go.Proofs.Yticpnjhkdfdkkaa.Q
namespace Go.Proofs.Yticpnjhkdfdkkaa.Q
open Go.RowKit Go.Proofs.Yticpnjhkdfdkkaa.T Go.Proofs.YticpnjhkdfdkkaaW.PrintWords Go.Proofs.YticpnjhkdfdkkaaW.PrintLast
set_option linter.unusedVariables false
set_option linter.unusedSimpArgs false
abbrev pr (l : List Bt) (i : Nat) : Int := (rb l (i : Int)).f2
abbrev mk (l : List Bt) (i : Nat) : Bool := (rb l (i : Int)).f1
def nm (l : List Bt) : Nat → Nat → Option Nat
  | 0, _ => none
  | k + 1, i => match nm l k i with
    | some j => some j
    | none => if i < k ∧ mk l k = true ∧ pr l k = pr l i then some k else none
theorem nm_succ_some {l : List Bt} {k i j : Nat} (h : nm l k i = some j) : nm l (k + 1) i = some j := by simp only [nm, h]
theorem nm_le {l : List Bt} {i j : Nat} : ∀ {k m : Nat}, nm l k i = some j → k ≤ m → nm l m i = some j := by
  intro k m h hk
  induction m with
  | zero => have : k = 0 := by omega
            subst this; exact h
  | succ m ih =>
    by_cases he : k = m + 1
    · subst he; exact h
    · exact nm_succ_some (ih (by omega))
theorem nm_some {l : List Bt} {i j : Nat} : ∀ {k : Nat}, nm l k i = some j → i < j ∧ j < k ∧ mk l j = true ∧ pr l j = pr l i
  | 0, h => by simp [nm] at h
  | k + 1, h => by
    simp only [nm] at h
    cases hn : nm l k i with
    | some j' =>
      rw [hn] at h
      obtain rfl := Option.some.inj h
      have := nm_some hn
      exact ⟨this.1, by omega, this.2.2⟩
    | none =>
      rw [hn] at h
      dsimp only at h
      split at h
      · rename_i hc
        obtain rfl := Option.some.inj h
        exact ⟨hc.1, by omega, hc.2⟩
      · cases h
theorem nm_none {l : List Bt} {i : Nat} : ∀ {k : Nat}, nm l k i = none → ∀ j, i < j → j < k → ¬ (mk l j = true ∧ pr l j = pr l i)
  | 0, _, j, _, h => by omega
  | k + 1, h, j, h1, h2 => by
    simp only [nm] at h
    cases hn : nm l k i with
    | some j' => rw [hn] at h; cases h
    | none =>
      rw [hn] at h
      dsimp only at h
      split at h
      · cases h
      · rename_i hc
        by_cases he : j = k
        · subst he; exact fun h3 => hc ⟨h1, h3⟩
        · exact nm_none hn j h1 (by omega)
theorem nm_first {l : List Bt} {i j : Nat} : ∀ {k : Nat}, nm l k i = some j → nm l j i = none
  | 0, h => by simp [nm] at h
  | k + 1, h => by
    simp only [nm] at h
    cases hn : nm l k i with
    | some j' =>
      rw [hn] at h
      obtain rfl := Option.some.inj h
      exact nm_first hn
    | none =>
      rw [hn] at h
      dsimp only at h
      split at h
      · obtain rfl := Option.some.inj h; exact hn
      · cases h
theorem nm_self {l : List Bt} : ∀ {k i : Nat}, k ≤ i + 1 → nm l k i = none
  | 0, _, _ => rfl
  | k + 1, i, h => by
    simp only [nm, nm_self (show k ≤ i + 1 by omega)]
    rw [if_neg (by omega)]
def wAt (l : List Bt) (k i : Nat) : Int := if pr l i = 255 then 1 else if mk l i = true then 3 else match nm l k i with
  | none => 0
  | some j => if tellsP (rb l (j : Int)) = true then 1 else 2
def bAt (l : List Bt) (k i : Nat) : Int := if pr l i = 255 then -1 else if mk l i = true then -1 else match nm l k i with
  | none => -1
  | some j => (j : Int)
def opens (l : List Bt) (k i : Nat) : Bool := decide (pr l i ≠ 255) && (!mk l i && (nm l k i).isNone)
theorem fold_fin (l : List Bt) (i : Nat) : ∀ (xs : List Nat) (s : FSt), (∀ x ∈ xs, x < s.ws.length ∧ x < s.bs.length) →
    (xs.foldl (fin1 l i) s).op = s.op ++ xs.filter (fun x => decide (pr l x ≠ pr l i)) ∧
    (∀ y, (xs.foldl (fin1 l i) s).ws.getD y 0 = if y ∈ xs ∧ pr l y = pr l i then (if tellsP (rb l (i : Int)) = true then 1 else 2) else s.ws.getD y 0) ∧
    (∀ y, (xs.foldl (fin1 l i) s).bs.getD y 0 = if y ∈ xs ∧ pr l y = pr l i then (i : Int) else s.bs.getD y 0)
  | [], s, _ => by simp
  | x :: xs, s, h => by
    have hx := h x (by simp)
    by_cases hp : pr l x = pr l i
    · have hf : fin1 l i s x = ⟨s.ws.set x (if tellsP (rb l (i : Int)) = true then 1 else 2), s.bs.set x (i : Int), s.op⟩ := if_pos hp
      have ih := fold_fin l i xs (fin1 l i s x) (fun y hy => by rw [hf]; simpa using h y (by simp [hy]))
      rw [List.foldl_cons]
      rw [hf] at ih ⊢
      refine ⟨?_, fun y => ?_, fun y => ?_⟩
      · rw [ih.1]; simp [hp]
      · rw [ih.2.1 y]
        by_cases hy : y = x
        · subst hy
          simp [hp, List.getD_eq_getElem?_getD, List.getElem?_set_self hx.1]
        · simp [hy, List.getD_eq_getElem?_getD, List.getElem?_set_ne (Ne.symm hy)]
      · rw [ih.2.2 y]
        by_cases hy : y = x
        · subst hy
          simp [hp, List.getD_eq_getElem?_getD, List.getElem?_set_self hx.2]
        · simp [hy, List.getD_eq_getElem?_getD, List.getElem?_set_ne (Ne.symm hy)]
    · have hf : fin1 l i s x = ⟨s.ws, s.bs, s.op ++ [x]⟩ := if_neg hp
      have ih := fold_fin l i xs (fin1 l i s x) (fun y hy => by rw [hf]; exact h y (by simp [hy]))
      rw [List.foldl_cons]
      rw [hf] at ih ⊢
      refine ⟨?_, fun y => ?_, fun y => ?_⟩
      · rw [ih.1]; simp [hp]
      · rw [ih.2.1 y]
        by_cases hy : y = x
        · subst hy; simp [hp]
        · simp [hy]
      · rw [ih.2.2 y]
        by_cases hy : y = x
        · subst hy; simp [hp]
        · simp [hy]
structure FP (l : List Bt) (k : Nat) (s : FSt) : Prop where
  op : s.op = (List.range k).filter (opens l k)
  ws : ∀ i, i < k → s.ws.getD i 0 = wAt l k i
  wz : ∀ i, k ≤ i → s.ws.getD i 0 = 0
  bs : ∀ i, i < k → s.bs.getD i 0 = bAt l k i
theorem nm_step {l : List Bt} {k i : Nat} (h : ¬ (mk l k = true ∧ pr l k = pr l i)) : nm l (k + 1) i = nm l k i := by
  cases hn : nm l k i with
  | some j => exact nm_succ_some hn
  | none => simp only [nm, hn]; rw [if_neg (fun h2 => h h2.2)]
theorem FP_step {l : List Bt} {k : Nat} (hk : k < l.length) {s : FSt} (hok : FOk l.length k s) (h : FP l k s) : FP l (k + 1) (fstep l s k) := by
  have hlw := hok.lw
  have hlb := hok.lb
  have gs : ∀ (a : List Int) (i x : Nat) (v : Int), x < a.length → (a.set x v).getD i 0 = if i = x then v else a.getD i 0 := by
    intro a i x v hx
    by_cases hi : i = x
    · subst hi; simp [List.getD_eq_getElem?_getD, List.getElem?_set_self hx]
    · simp [hi, List.getD_eq_getElem?_getD, List.getElem?_set_ne (Ne.symm hi)]
  unfold fstep
  by_cases h255 : pr l k = 255
  · rw [if_pos h255]
    have same : ∀ i, pr l i ≠ 255 → nm l (k + 1) i = nm l k i := fun i hi => nm_step (fun h2 => hi (h2.2.symm.trans h255))
    refine ⟨?_, fun i hi => ?_, fun i hi => ?_, fun i hi => ?_⟩
    · dsimp only
      rw [h.op, List.range_succ, List.filter_append]
      have h1 : [k].filter (opens l (k + 1)) = [] := by simp [opens, h255]
      rw [h1, List.append_nil]
      refine List.filter_congr (fun i hi => ?_)
      unfold opens
      by_cases hp : pr l i = 255
      · simp [hp]
      · rw [same i hp]
    · dsimp only
      rw [gs _ _ _ _ (by omega)]
      by_cases he : i = k
      · rw [if_pos he, he]; unfold wAt; rw [if_pos h255]
      · rw [if_neg he, h.ws i (by omega)]
        unfold wAt
        by_cases hp : pr l i = 255
        · rw [if_pos hp, if_pos hp]
        · rw [if_neg hp, if_neg hp, same i hp]
    · dsimp only
      rw [gs _ _ _ _ (by omega), if_neg (by omega)]
      exact h.wz i (by omega)
    · dsimp only
      rw [gs _ _ _ _ (by omega)]
      by_cases he : i = k
      · rw [if_pos he, he]; unfold bAt; rw [if_pos h255]
      · rw [if_neg he, h.bs i (by omega)]
        unfold bAt
        by_cases hp : pr l i = 255
        · rw [if_pos hp, if_pos hp]
        · rw [if_neg hp, if_neg hp, same i hp]
  · rw [if_neg h255]
    by_cases hm : mk l k = false
    · rw [if_pos hm]
      have same : ∀ i, nm l (k + 1) i = nm l k i := fun i => nm_step (fun h2 => by rw [hm] at h2; cases h2.1)
      have hk0 : nm l (k + 1) k = none := nm_self (Nat.le_refl _)
      refine ⟨?_, fun i hi => ?_, fun i hi => ?_, fun i hi => ?_⟩
      · dsimp only
        rw [h.op, List.range_succ, List.filter_append]
        have h1 : [k].filter (opens l (k + 1)) = [k] := by simp [opens, h255, hm, hk0]
        rw [h1]
        congr 1
        refine List.filter_congr (fun i hi => ?_)
        unfold opens
        rw [same i]
      · dsimp only
        by_cases he : i = k
        · rw [he, h.wz k (Nat.le_refl _)]
          unfold wAt
          rw [if_neg h255, if_neg (by rw [hm]; simp), hk0]
        · rw [h.ws i (by omega)]
          unfold wAt
          rw [same i]
      · dsimp only
        exact h.wz i (by omega)
      · dsimp only
        rw [gs _ _ _ _ (by omega)]
        by_cases he : i = k
        · rw [if_pos he, he]; unfold bAt; rw [if_neg h255, if_neg (by rw [hm]; simp), hk0]
        · rw [if_neg he, h.bs i (by omega)]
          unfold bAt
          rw [same i]
    · have hm' : mk l k = true := by simpa using hm
      rw [if_neg hm]
      have hop : ∀ x, x ∈ s.op ↔ x < k ∧ pr l x ≠ 255 ∧ mk l x = false ∧ nm l k x = none := by
        intro x
        rw [h.op, List.mem_filter, List.mem_range]
        simp [opens]
      have hF := fold_fin l k s.op ⟨s.ws.set k 3, s.bs.set k (-1), []⟩ (fun x hx => by
        have := hok.op x hx
        simp only [List.length_set]
        omega)
      dsimp only at hF
      have hn : ∀ i, i < k → nm l (k + 1) i = match nm l k i with | some j => some j | none => if pr l k = pr l i then some k else none := by
        intro i hi
        simp only [nm]
        cases nm l k i with
        | some j => rfl
        | none => simp [hi, hm']
      refine ⟨?_, fun i hi => ?_, fun i hi => ?_, fun i hi => ?_⟩
      · rw [hF.1, List.nil_append, h.op, List.range_succ, List.filter_append, List.filter_filter]
        have h1 : [k].filter (opens l (k + 1)) = [] := by simp [opens, hm']
        rw [h1, List.append_nil]
        refine List.filter_congr (fun i hi => ?_)
        rw [List.mem_range] at hi
        unfold opens
        rw [hn i hi]
        cases hni : nm l k i with
        | some j => simp
        | none =>
          by_cases hp : pr l k = pr l i
          · simp [hp]
          · have hp2 : ¬ pr l i = pr l k := fun e => hp e.symm
            simp [hp, hp2]
      · rw [hF.2.1 i]
        by_cases he : i = k
        · subst he
          rw [if_neg (by rw [hop]; omega), gs _ _ _ _ (by omega), if_pos rfl]
          unfold wAt
          rw [if_neg h255, if_pos hm']
        · have hik : i < k := by omega
          rw [gs _ _ _ _ (by omega), if_neg he, h.ws i hik]
          unfold wAt
          by_cases hp : pr l i = 255
          · rw [if_neg (by rw [hop]; exact fun h2 => h2.1.2.1 hp), if_pos hp, if_pos hp]
          · rw [if_neg hp, if_neg hp]
            by_cases hmi : mk l i = true
            · rw [if_neg (by rw [hop]; intro h2; rw [hmi] at h2; cases h2.1.2.2.1), if_pos hmi, if_pos hmi]
            · rw [if_neg hmi, if_neg hmi, hn i hik]
              cases hni : nm l k i with
              | some j => rw [if_neg (by rw [hop, hni]; intro h2; cases h2.1.2.2.2)]
              | none =>
                by_cases hpk : pr l i = pr l k
                · rw [if_pos ⟨(hop i).2 ⟨hik, hp, by simpa using hmi, hni⟩, hpk⟩]
                  simp [hpk]
                · rw [if_neg (fun h2 => hpk h2.2)]
                  have hp2 : ¬ pr l k = pr l i := fun e => hpk e.symm
                  simp [hp2]
      · rw [hF.2.1 i, if_neg (by rw [hop]; omega), gs _ _ _ _ (by omega), if_neg (by omega)]
        exact h.wz i (by omega)
      · rw [hF.2.2 i]
        by_cases he : i = k
        · subst he
          rw [if_neg (by rw [hop]; omega), gs _ _ _ _ (by omega), if_pos rfl]
          unfold bAt
          rw [if_neg h255, if_pos hm']
        · have hik : i < k := by omega
          rw [gs _ _ _ _ (by omega), if_neg he, h.bs i hik]
          unfold bAt
          by_cases hp : pr l i = 255
          · rw [if_neg (by rw [hop]; exact fun h2 => h2.1.2.1 hp), if_pos hp, if_pos hp]
          · rw [if_neg hp, if_neg hp]
            by_cases hmi : mk l i = true
            · rw [if_neg (by rw [hop]; intro h2; rw [hmi] at h2; cases h2.1.2.2.1), if_pos hmi, if_pos hmi]
            · rw [if_neg hmi, if_neg hmi, hn i hik]
              cases hni : nm l k i with
              | some j => rw [if_neg (by rw [hop, hni]; intro h2; cases h2.1.2.2.2)]
              | none =>
                by_cases hpk : pr l i = pr l k
                · rw [if_pos ⟨(hop i).2 ⟨hik, hp, by simpa using hmi, hni⟩, hpk⟩]
                  simp [hpk]
                · rw [if_neg (fun h2 => hpk h2.2)]
                  have hp2 : ¬ pr l k = pr l i := fun e => hpk e.symm
                  simp [hp2]
theorem FP_all (l : List Bt) : ∀ k, k ≤ l.length → FP l k (fatesTo l k)
  | 0, _ => ⟨by simp [fatesTo, fates0], fun i h => by omega, fun i h => by simp [fatesTo, fates0, List.getD_eq_getElem?_getD, List.getElem?_replicate]; split <;> rfl, fun i h => by omega⟩
  | k + 1, h => by
    rw [fatesTo_succ]
    exact FP_step (by omega) (fates_ok l k (by omega)) (FP_all l k (by omega))
theorem fates_len (l : List Bt) : (fatesTo l l.length).ws.length = l.length ∧ (fatesTo l l.length).bs.length = l.length := ⟨(fates_ok l _ (Nat.le_refl _)).lw, (fates_ok l _ (Nat.le_refl _)).lb⟩
theorem fates_w (l : List Bt) (i : Nat) (h : i < l.length) : rd (fatesTo l l.length).ws (i : Int) = wAt l l.length i := by
  have := (FP_all l l.length (Nat.le_refl _)).ws i h
  unfold rd
  rwa [Int.toNat_natCast]
theorem fates_b (l : List Bt) (i : Nat) (h : i < l.length) : rd (fatesTo l l.length).bs (i : Int) = bAt l l.length i := by
  have := (FP_all l l.length (Nat.le_refl _)).bs i h
  unfold rd
  rwa [Int.toNat_natCast]
theorem fates_fit {l : List Bt} (h : VL l) : impl_fatesOf.f l = some ((fatesTo l l.length).ws, (fatesTo l l.length).bs) := by
  unfold impl_fatesOf.f
  rw [if_pos]
  unfold fatesFit
  rw [Bool.and_eq_true, decide_eq_true_eq, List.all_eq_true]
  refine ⟨by have := h.1; omega, fun b hb => ?_⟩
  obtain ⟨j, hj, rfl⟩ := List.getElem_of_mem hb
  have := (vB_pos (VL_at h j hj)).1
  rw [rb_nat l j hj] at this
  exact decide_eq_true (by omega)
end Go.Proofs.Yticpnjhkdfdkkaa.Q
namespace Go.Proofs.Yticpnjhkdfdkkaa.T
open Go.RowKit Go.Proofs.YticpnjhkdfdkkaaW.PrintWords Go.Proofs.YticpnjhkdfdkkaaW.PrintLast Go.Proofs.YticpnjhkdfdkkaaW.PrintMore
attribute [local go_sem] max2_int max_two
set_option linter.unusedVariables false
set_option linter.unusedSimpArgs false
end Go.Proofs.Yticpnjhkdfdkkaa.T
namespace Go.Proofs.Yticpnjhkdfdkkaa.T
open Go.RowKit Go.Proofs.YticpnjhkdfdkkaaW.PrintWords Go.Proofs.YticpnjhkdfdkkaaW.PrintLast Go.Proofs.YticpnjhkdfdkkaaW.PrintMore
attribute [local go_sem] max2_int max_two
set_option linter.unusedVariables false
set_option linter.unusedSimpArgs false
end Go.Proofs.Yticpnjhkdfdkkaa.T
namespace Go.Proofs.Yticpnjhkdfdkkaa.T
open Go.RowKit Go.Proofs.YticpnjhkdfdkkaaW.PrintWords Go.Proofs.YticpnjhkdfdkkaaW.PrintLast Go.Proofs.YticpnjhkdfdkkaaW.PrintMore
attribute [local go_sem] max2_int max_two
set_option linter.unusedVariables false
set_option linter.unusedSimpArgs false
end Go.Proofs.Yticpnjhkdfdkkaa.T
namespace Go.Proofs.Yticpnjhkdfdkkaa.T
open Go.RowKit Go.Proofs.YticpnjhkdfdkkaaW.PrintWords Go.Proofs.YticpnjhkdfdkkaaW.PrintLast Go.Proofs.YticpnjhkdfdkkaaW.PrintMore
attribute [local go_sem] max2_int max_two
set_option linter.unusedVariables false
set_option linter.unusedSimpArgs false
end Go.Proofs.Yticpnjhkdfdkkaa.T
namespace Go.Proofs.Yticpnjhkdfdkkaa.Q
open Go.RowKit Go.Proofs.Yticpnjhkdfdkkaa.T Go.Proofs.YticpnjhkdfdkkaaW.PrintWords Go.Proofs.YticpnjhkdfdkkaaW.PrintLast
set_option linter.unusedVariables false
set_option linter.unusedSimpArgs false
def nmI : Option Nat → Int
  | none => -1
  | some j => (j : Int)
theorem specMark_loop (l : List Bt) (hl : l.length ≤ 2000000) (i : Nat) (hi : i < l.length) : ∀ (d j : Nat), l.length - j = d → i < j → j ≤ l.length → nm l j i = none → Ev (fun k => spec_l22Mark.l0 k l (i : Int) (j : Int)) (nmI (nm l l.length i)) := by
  intro d
  induction d with
  | zero =>
    intro j hd h1 h2 hn
    have hj : j = l.length := by omega
    subst hj
    refine ev_succ ?_
    simp only [spec_l22Mark.l0, if_neg (show ¬ (l.length : Int) < (l.length : Int) by omega), hn]
    exact ev_some _
  | succ d ih =>
    intro j hd h1 h2 hn
    have e1 : wrap64 ((j : Int) + 1) = ((j + 1 : Nat) : Int) := by rw [wrap_id (by omega) (by omega)]; omega
    refine ev_succ ?_
    simp only [spec_l22Mark.l0, if_pos (show (j : Int) < (l.length : Int) by omega), if_pos (show (0 : Int) ≤ (j : Int) by omega), e1]
    have next : ¬ (mk l j = true ∧ pr l j = pr l i) → Ev (fun k => spec_l22Mark.l0 k l (i : Int) ((j + 1 : Nat) : Int)) (nmI (nm l l.length i)) := fun h => ih (j + 1) (by omega) (by omega) (by omega) (by rw [nm_step h]; exact hn)
    by_cases hm : mk l j = true
    · simp only [if_pos (show (rd_T27 l (j : Int)).f1 = true from hm), if_pos (show (0 : Int) ≤ (i : Int) by omega), if_pos (show (i : Int) < (l.length : Int) by omega)]
      by_cases hp : pr l j = pr l i
      · simp only [if_pos (show (rd_T27 l (j : Int)).f2 = (rd_T27 l (i : Int)).f2 from hp)]
        have h3 : nm l (j + 1) i = some j := by simp only [nm, hn]; rw [if_pos ⟨h1, hm, hp⟩]
        rw [nm_le h3 (by omega)]
        exact ev_some _
      · simp only [if_neg (show ¬ (rd_T27 l (j : Int)).f2 = (rd_T27 l (i : Int)).f2 from hp)]
        exact next (fun h => hp h.2)
    · simp only [if_neg (show ¬ (rd_T27 l (j : Int)).f1 = true from hm)]
      exact next (fun h => hm h.1)
theorem specMarkAt (l : List Bt) (hl : l.length ≤ 2000000) (i : Nat) (hi : i < l.length) : Ev (fun k => spec_l22Mark.f k l (i : Int)) (nmI (nm l l.length i)) := by
  unfold spec_l22Mark.f
  have e1 : wrap64 ((i : Int) + 1) = ((i + 1 : Nat) : Int) := by rw [wrap_id (by omega) (by omega)]; omega
  rw [e1]
  exact specMark_loop l hl i hi _ (i + 1) rfl (by omega) (by omega) (nm_self (Nat.le_refl _))
theorem ours_eq (b : Bt) : spec_l22Ours.f b.f0 b.f1 b.f2 b.f3 b.f4 b.f5 = some (decide (b.f2 ≠ 255) && !b.f1) := by
  unfold spec_l22Ours.f
  by_cases h : b.f2 = 255
  · rw [if_pos h]; simp [h]
  · rw [if_neg h]; simp [h]
theorem vl_true {l : List Bt} (h : VL l) : vl l = true := (vl_iff l).2 h
theorem vl_false {l : List Bt} (h : ¬ VL l) : vl l = false := by rw [← Bool.not_eq_true, vl_iff]; exact h
end Go.Proofs.Yticpnjhkdfdkkaa.Q
namespace Go.Proofs.Yticpnjhkdfdkkaa.Q
open Go.RowKit Go.Proofs.Yticpnjhkdfdkkaa.T Go.Proofs.YticpnjhkdfdkkaaW.PrintWords Go.Proofs.YticpnjhkdfdkkaaW.PrintLast
set_option linter.unusedVariables false
set_option linter.unusedSimpArgs false
abbrev Un := S46
abbrev ru (l : List Un) (i : Int) : Un := rd_T46 l i
theorem ru_nat (l : List Un) (j : Nat) (h : j < l.length) : ru l (j : Int) = l[j] := by
  unfold ru rd_T46
  rw [Int.toNat_natCast, List.getD_eq_getElem?_getD, List.getElem?_eq_getElem h]
  rfl
def fsA (l : List Bt) (i : Nat) : Nat → Bool
  | 0 => true
  | m + 1 => if pr l m = pr l i then mk l m else fsA l i m
def uAt (l : List Bt) (i : Nat) : Option Un := match nm l l.length i with
  | some j => if (pr l i ≠ 255 ∧ mk l i = false) ∧ tellsP (rb l (j : Int)) = false ∧ fsA l i i = true then some ⟨pr l i, fOff (rb l (i : Int)), fOff (rb l (j : Int))⟩ else none
  | none => none
def undTo (l : List Bt) (i : Nat) : List Un := (List.range i).filterMap (uAt l)
theorem undTo_succ (l : List Bt) (i : Nat) : undTo l (i + 1) = undTo l i ++ (match uAt l i with | some u => [u] | none => []) := by
  unfold undTo
  rw [List.range_succ, List.filterMap_append]
  congr 1
  cases h : uAt l i <;> simp [h]
theorem undTo_len (l : List Bt) (i : Nat) : (undTo l i).length ≤ i := by
  have := List.length_filterMap_le (uAt l) (List.range i)
  rwa [List.length_range] at this
theorem uAt_w (l : List Bt) (i : Nat) (h : wAt l l.length i ≠ 2) : uAt l i = none := by
  unfold uAt
  unfold wAt at h
  cases hn : nm l l.length i with
  | none => rfl
  | some j =>
    rw [hn] at h
    dsimp only
    refine if_neg (fun hc => h ?_)
    rw [if_neg hc.1.1, if_neg (by rw [hc.1.2]; simp)]
    dsimp only
    rw [if_neg (by rw [hc.2.1]; simp)]
theorem wAt_two {l : List Bt} {i : Nat} (h : wAt l l.length i = 2) : ∃ j, nm l l.length i = some j ∧ (pr l i ≠ 255 ∧ mk l i = false) ∧ tellsP (rb l (j : Int)) = false ∧ bAt l l.length i = (j : Int) := by
  unfold wAt at h
  unfold bAt
  by_cases h1 : pr l i = 255
  · rw [if_pos h1] at h; omega
  · rw [if_neg h1] at h
    by_cases h2 : mk l i = true
    · rw [if_pos h2] at h; omega
    · rw [if_neg h2] at h
      cases hn : nm l l.length i with
      | none => rw [hn] at h; dsimp only at h; omega
      | some j =>
        rw [hn] at h
        dsimp only at h
        by_cases h3 : tellsP (rb l (j : Int)) = true
        · rw [if_pos h3] at h; omega
        · exact ⟨j, rfl, ⟨h1, by simpa using h2⟩, by simpa using h3, by rw [if_neg h1, if_neg h2]⟩
theorem implU_l1 (l : List Bt) (hl : l.length ≤ 2000000) (i : Nat) (hi : i < l.length) (o : List Un) (ws bs : List Int) (R : List Un) (hR : Ev (fun k => impl_UndoneOf.j2 k l o (i : Int) (fsA l i i) l (l.length : Int) (i : Int) ws bs (rb l i).f0 (rb l i).f1 (rb l i).f2 (rb l i).f3 (rb l i).f4 (rb l i).f5) R) :
    ∀ m : Nat, m ≤ i → fsA l i m = fsA l i i → Ev (fun k => impl_UndoneOf.l1 k l o (i : Int) true ((m : Int) - 1) l (l.length : Int) (i : Int) ws bs (rb l i).f0 (rb l i).f1 (rb l i).f2 (rb l i).f3 (rb l i).f4 (rb l i).f5) R := by
  intro m
  induction m with
  | zero =>
    intro _ hf
    refine ev_succ ?_
    simp only [impl_UndoneOf.l1, if_neg (show ¬ ((0 : Nat) : Int) - 1 ≥ 0 by omega)]
    rw [← hf] at hR
    exact hR
  | succ m ih =>
    intro hm hf
    have e0 : ((m + 1 : Nat) : Int) - 1 = (m : Int) := by omega
    have e1 : wrap64 ((m : Int) - 1) = (m : Int) - 1 := wrap_id (by omega) (by omega)
    rw [e0]
    refine ev_succ ?_
    simp only [impl_UndoneOf.l1, if_pos (show (m : Int) ≥ 0 by omega), if_pos (show (0 : Int) ≤ (m : Int) by omega), if_pos (show (m : Int) < (l.length : Int) by omega), e1]
    by_cases hp : pr l m = pr l i
    · simp only [if_pos (show (rd_T27 l (m : Int)).f2 = (rb l (i : Int)).f2 from hp)]
      have : fsA l i (m + 1) = mk l m := if_pos hp
      rw [← hf, this] at hR
      exact hR
    · simp only [if_neg (show ¬ (rd_T27 l (m : Int)).f2 = (rb l (i : Int)).f2 from hp)]
      have : fsA l i (m + 1) = fsA l i m := if_neg hp
      exact ih (by omega) (by rw [← this]; exact hf)
theorem implU_loop (l : List Bt) (hl : smallBs l) (h : VL l) : ∀ (d i : Nat), l.length - i = d → i ≤ l.length → Ev (fun k => impl_UndoneOf.l0 k l (undTo l i) l (l.length : Int) (i : Int) (fatesTo l l.length).ws (fatesTo l l.length).bs) (undTo l l.length) := by
  have hs := hl.1
  have hlw := (fates_len l).1
  have hlb := (fates_len l).2
  intro d
  induction d with
  | zero =>
    intro i hd hi
    have he : i = l.length := by omega
    subst he
    refine ev_succ ?_
    simp only [impl_UndoneOf.l0, if_neg (show ¬ (l.length : Int) < (l.length : Int) by omega)]
    exact ev_some _
  | succ d ih =>
    intro i hd hi
    have hlt : i < l.length := by omega
    have e1 : wrap64 ((i : Int) + 1) = ((i + 1 : Nat) : Int) := by rw [wrap_id (by omega) (by omega)]; omega
    have e2 : wrap64 ((i : Int) - 1) = (i : Int) - 1 := wrap_id (by omega) (by omega)
    have hnext := ih (i + 1) (by omega) (by omega)
    have hol := undTo_len l i
    refine ev_succ ?_
    simp only [impl_UndoneOf.l0, if_pos (show (i : Int) < (l.length : Int) by omega), if_pos (show (0 : Int) ≤ (i : Int) by omega), hlw, fates_w l i hlt, e1, e2]
    by_cases hw : wAt l l.length i = 2
    · obtain ⟨j, hj, hij, ht, hb⟩ := wAt_two hw
      have hjl := nm_some hj
      simp only [if_pos hw]
      refine implU_l1 l hs i hlt _ _ _ _ ?_ i (Nat.le_refl _) rfl
      refine ev_succ ?_
      have hu : uAt l i = if fsA l i i = true then some ⟨pr l i, fOff (rb l (i : Int)), fOff (rb l (j : Int))⟩ else none := by
        unfold uAt
        rw [hj]
        dsimp only
        by_cases hf : fsA l i i = true
        · rw [if_pos ⟨hij, ht, hf⟩, if_pos hf]
        · rw [if_neg (fun h2 => hf h2.2.2), if_neg hf]
      rw [undTo_succ, hu] at hnext
      by_cases hf : fsA l i i = true
      · have f1 := first_eq (VL_at h i hlt)
        have f2 := first_eq (VL_at h j hjl.2.1)
        simp only [impl_UndoneOf.j2, hf, if_true, f1, bsome, hlb, fates_b l i hlt, hb, if_pos (show (0 : Int) ≤ (i : Int) by omega), if_pos (show (i : Int) < (l.length : Int) by omega), if_pos (show (0 : Int) ≤ (j : Int) by omega), if_pos (show (j : Int) < (l.length : Int) by omega), e1]
        rw [show (rd_T27 l (j : Int)) = rb l (j : Int) from rfl, f2]
        simp only [bsome, if_pos (show (undTo l i).length < 5864062014805 by omega)]
        rw [hf] at hnext
        exact hnext
      · simp only [impl_UndoneOf.j2, show fsA l i i = false by simpa using hf, Bool.false_eq_true, if_false, e1]
        rw [if_neg hf] at hnext
        simpa using hnext
    · simp only [if_neg hw]
      rw [undTo_succ, uAt_w l i hw] at hnext
      simpa using hnext
noncomputable def und (l : List Bt) : List Un := if vl l = true then undTo l l.length else []
theorem implUnd (l : List Bt) (hl : smallBs l) : Ev (fun k => impl_UndoneOf.f k l) (und l) := by
  unfold impl_UndoneOf.f und
  simp only [bsome]
  refine Ev.bind (implLog l hl) ?_
  by_cases h : VL l
  · rw [vl_true h]
    simp only [if_true, fates_fit h, bsome]
    exact implU_loop l hl h l.length 0 (by omega) (by omega)
  · rw [vl_false h]
    simp only [Bool.false_eq_true, if_false]
    exact ev_some _
theorem specFirst (l : List Bt) (hl : l.length ≤ 2000000) (i : Nat) (hi : i < l.length) : Ev (fun k => spec_l22First.f k l (i : Int)) (fsA l i i) := by
  have e2 : wrap64 ((i : Int) - 1) = (i : Int) - 1 := wrap_id (by omega) (by omega)
  unfold spec_l22First.f
  rw [e2]
  have : ∀ m : Nat, m ≤ i → Ev (fun k => spec_l22First.l0 k l (i : Int) ((m : Int) - 1)) (fsA l i m) := by
    intro m
    induction m with
    | zero =>
      intro _
      refine ev_succ ?_
      simp only [spec_l22First.l0, if_neg (show ¬ ((0 : Nat) : Int) - 1 ≥ 0 by omega)]
      exact ev_some _
    | succ m ih =>
      intro hm
      have e0 : ((m + 1 : Nat) : Int) - 1 = (m : Int) := by omega
      have e1 : wrap64 ((m : Int) - 1) = (m : Int) - 1 := wrap_id (by omega) (by omega)
      rw [e0]
      refine ev_succ ?_
      simp only [spec_l22First.l0, if_pos (show (m : Int) ≥ 0 by omega), if_pos (show (0 : Int) ≤ (m : Int) by omega), if_pos (show (m : Int) < (l.length : Int) by omega), if_pos (show (0 : Int) ≤ (i : Int) by omega), if_pos (show (i : Int) < (l.length : Int) by omega), e1]
      by_cases hp : pr l m = pr l i
      · simp only [if_pos (show (rd_T27 l (m : Int)).f2 = (rd_T27 l (i : Int)).f2 from hp)]
        rw [show fsA l i (m + 1) = mk l m from if_pos hp]
        exact ev_some _
      · simp only [if_neg (show ¬ (rd_T27 l (m : Int)).f2 = (rd_T27 l (i : Int)).f2 from hp)]
        rw [show fsA l i (m + 1) = fsA l i m from if_neg hp]
        exact ih (by omega)
  exact this i (Nat.le_refl _)
theorem fine_eq {b : Bt} (h : vB b) : spec_l22Fine.f b.f0 b.f1 b.f2 b.f3 b.f4 b.f5 = some (tellsP b) := by
  have hp := vB_pos h
  unfold spec_l22Fine.f tellsP
  rw [if_pos (show 0 < (b.f5.length : Int) by omega)]
  generalize (rd_T34 b.f5 0).f5 = v
  by_cases hl : (v.length : Int) = 1
  · rw [if_pos hl, if_pos (show 0 < (v.length : Int) by omega)]
    obtain ⟨x, rfl⟩ : ∃ x, v = [x] := List.length_eq_one_iff.1 (by omega)
    simp [rd]
    rfl
  · rw [if_neg hl, decide_eq_false (fun e => hl (by rw [e]; rfl))]
theorem specU_loop (l : List Bt) (hl : smallBs l) (h : VL l) : ∀ (d i : Nat), l.length - i = d → i ≤ l.length → Ev (fun k => spec_UndoneOf.l0 k l (undTo l i) (i : Int)) (undTo l l.length) := by
  have hs := hl.1
  intro d
  induction d with
  | zero =>
    intro i hd hi
    have he : i = l.length := by omega
    subst he
    refine ev_succ ?_
    simp only [spec_UndoneOf.l0, if_neg (show ¬ (l.length : Int) < (l.length : Int) by omega)]
    refine ev_succ ?_
    simp only [spec_UndoneOf.j1, Bool.false_eq_true, if_false]
    exact ev_some _
  | succ d ih =>
    intro i hd hi
    have hlt : i < l.length := by omega
    have e1 : wrap64 ((i : Int) + 1) = ((i + 1 : Nat) : Int) := by rw [wrap_id (by omega) (by omega)]; omega
    have hnext := ih (i + 1) (by omega) (by omega)
    have hol := undTo_len l i
    have f := ours_eq (rb l (i : Int))
    rw [undTo_succ] at hnext
    have skip : uAt l i = none → Ev (fun k => spec_UndoneOf.j2 k l (undTo l i) (i : Int) true) (undTo l l.length) := by
      intro hu
      refine ev_succ ?_
      simp only [spec_UndoneOf.j2, if_true, e1]
      rw [hu] at hnext
      simpa using hnext
    refine ev_succ ?_
    simp only [spec_UndoneOf.l0, if_pos (show (i : Int) < (l.length : Int) by omega)]
    refine Ev.bind (specLog l hl) ?_
    rw [vl_true h]
    refine ev_succ ?_
    simp only [spec_UndoneOf.j1, if_true, if_pos (show (0 : Int) ≤ (i : Int) by omega), if_pos (show (i : Int) < (l.length : Int) by omega)]
    rw [show (rd_T27 l (i : Int)) = rb l (i : Int) from rfl, f]
    simp only [bsome]
    by_cases hu : (decide ((rb l (i : Int)).f2 ≠ 255) && !(rb l (i : Int)).f1) = true
    · simp only [if_pos hu]
      have hu2 : pr l i ≠ 255 ∧ mk l i = false := by simpa using hu
      refine Ev.bind (specFirst l hs i hlt) ?_
      by_cases hf : fsA l i i = true
      · rw [hf]
        refine ev_succ ?_
        simp only [spec_UndoneOf.j2, Bool.not_true, Bool.false_eq_true, if_false, e1]
        refine Ev.bind (specMarkAt l hs i hlt) ?_
        cases hn : nm l l.length i with
        | none =>
          have hua : uAt l i = none := by unfold uAt; rw [hn]
          simp only [nmI, if_neg (show ¬ (-1 : Int) ≥ 0 by omega)]
          rw [hua] at hnext
          simpa using hnext
        | some j =>
          have hjl := nm_some hn
          have f2 : spec_l22Fine.f (rd_T27 l (j : Int)).f0 (rd_T27 l (j : Int)).f1 (rd_T27 l (j : Int)).f2 (rd_T27 l (j : Int)).f3 (rd_T27 l (j : Int)).f4 (rd_T27 l (j : Int)).f5 = some (tellsP (rb l (j : Int))) := fine_eq (VL_at h j hjl.2.1)
          have p1 := (vB_pos (VL_at h i hlt)).1
          have p2 := (vB_pos (VL_at h j hjl.2.1)).1
          simp only [nmI, if_pos (show (j : Int) ≥ 0 by omega), if_pos (show (0 : Int) ≤ (j : Int) by omega), if_pos (show (j : Int) < (l.length : Int) by omega)]
          simp only [f2, bsome]
          by_cases ht : tellsP (rb l (j : Int)) = true
          · have hua : uAt l i = none := by unfold uAt; rw [hn]; exact if_neg (fun h2 => by rw [ht] at h2; cases h2.2.1)
            simp only [if_pos ht]
            simp only [if_pos (show (j : Int) ≥ 0 by omega), if_pos (show (0 : Int) ≤ (j : Int) by omega), if_pos (show (j : Int) < (l.length : Int) by omega)]
            rw [hua] at hnext
            simpa using hnext
          · have hua : uAt l i = some ⟨pr l i, fOff (rb l (i : Int)), fOff (rb l (j : Int))⟩ := by unfold uAt; rw [hn]; exact if_pos ⟨hu2, by simpa using ht, hf⟩
            simp only [if_neg ht, if_pos (show (0 : Int) ≤ (i : Int) by omega), if_pos (show (i : Int) < (l.length : Int) by omega), if_pos (show 0 < ((rb l (i : Int)).f5.length : Int) by omega), if_pos (show 0 < ((rd_T27 l (j : Int)).f5.length : Int) by have : 1 ≤ (rd_T27 l (j : Int)).f5.length := p2; omega), if_pos (show (undTo l i).length < 5864062014805 by omega)]
            simp only [if_pos (show (j : Int) ≥ 0 by omega), if_pos (show (0 : Int) ≤ (j : Int) by omega), if_pos (show (j : Int) < (l.length : Int) by omega)]
            rw [hua] at hnext
            exact hnext
      · rw [show fsA l i i = false by simpa using hf]
        refine skip ?_
        unfold uAt
        cases nm l l.length i with
        | none => rfl
        | some j => exact if_neg (fun h2 => hf h2.2.2)
    · simp only [if_neg hu]
      refine skip ?_
      unfold uAt
      cases nm l l.length i with
      | none => rfl
      | some j => exact if_neg (fun h2 => hu (by simp [h2.1.1, h2.1.2]))
theorem specUnd (l : List Bt) (hl : smallBs l) : Ev (fun k => spec_UndoneOf.f k l) (und l) := by
  unfold spec_UndoneOf.f und
  by_cases h : VL l
  · rw [vl_true h]
    simp only [if_true]
    exact specU_loop l hl h l.length 0 (by omega) (by omega)
  · rw [vl_false h]
    simp only [Bool.false_eq_true, if_false]
    refine ev_succ ?_
    have stop : Ev (fun k => spec_UndoneOf.j1 k l [] 0 false) [] := by
      refine ev_succ ?_
      simp only [spec_UndoneOf.j1, Bool.false_eq_true, if_false]
      exact ev_some _
    by_cases h0 : (0 : Int) < (l.length : Int)
    · simp only [spec_UndoneOf.l0, if_pos h0]
      refine Ev.bind (specLog l hl) ?_
      rw [vl_false h]
      exact stop
    · simp only [spec_UndoneOf.l0, if_neg h0]
      exact stop
theorem sameU_loop (a : List Un) (hs : a.length ≤ 2000000) : ∀ (d i : Nat), a.length - i = d → i ≤ a.length → Ev (fun k => laws_sameUndone.l0 k a a (i : Int)) true := by
  intro d
  induction d with
  | zero =>
    intro i hd hi
    refine ev_succ ?_
    simp only [laws_sameUndone.l0, if_neg (show ¬ (i : Int) < (a.length : Int) by omega)]
    exact ev_some _
  | succ d ih =>
    intro i hd hi
    have e1 : wrap64 ((i : Int) + 1) = ((i + 1 : Nat) : Int) := by rw [wrap_id (by omega) (by omega)]; omega
    refine ev_succ ?_
    simp only [laws_sameUndone.l0, if_pos (show (i : Int) < (a.length : Int) by omega), if_pos (show (0 : Int) ≤ (i : Int) by omega), beq_self_eq_true, Bool.not_true, Bool.or_false, Bool.false_eq_true, if_false, e1]
    exact ih (i + 1) (by omega) (by omega)
theorem sameU (a : List Un) (hs : a.length ≤ 2000000) : Ev (fun k => laws_sameUndone.f k a a) true := by
  unfold laws_sameUndone.f
  simp only [if_true]
  exact sameU_loop a hs a.length 0 (by omega) (by omega)
theorem und_len (l : List Bt) (hl : l.length ≤ 2000000) : (und l).length ≤ 2000000 := by
  unfold und
  split
  · have := undTo_len l l.length; omega
  · simp
end Go.Proofs.Yticpnjhkdfdkkaa.Q
namespace Go.Proofs.Yticpnjhkdfdkkaa.Q
open Go.RowKit Go.Proofs.Yticpnjhkdfdkkaa.T Go.Proofs.YticpnjhkdfdkkaaW.PrintWords Go.Proofs.YticpnjhkdfdkkaaW.PrintLast
set_option linter.unusedVariables false
set_option linter.unusedSimpArgs false
theorem bytes_of {l : List Int} (h : ∀ x ∈ l, (Lit.int .u8 x).wf = true) : Bytes l := by
  intro x hx
  have := h x hx
  simp [Lit.wf, IntKind.min, IntKind.max, IntKind.signed, IntKind.bits] at this
  omega
theorem open_ev (l : List Int) (h : Bytes l) : ∃ b, spec_l6Open.f l = some (b, 0) ∧ Bytes b ∧ b.length ≤ 2000 := by
  unfold spec_l6Open.f
  by_cases hc : (l.length : Int) > 2000
  · rw [if_pos hc, if_pos (by omega)]
    exact ⟨_, rfl, fun x hx => h x (List.mem_of_mem_take hx), by rw [List.length_take]; omega⟩
  · rw [if_neg hc]
    exact ⟨_, rfl, h, by omega⟩
end Go.Proofs.Yticpnjhkdfdkkaa.Q
namespace Go.Proofs.Yticpnjhkdfdkkaa.Q
open Go.RowKit Go.Proofs.Yticpnjhkdfdkkaa.T Go.Proofs.YticpnjhkdfdkkaaW.PrintWords Go.Proofs.YticpnjhkdfdkkaaW.PrintLast
set_option linter.unusedVariables false
set_option linter.unusedSimpArgs false
theorem lim2 {n c : Nat} (h : n ≤ 2000) (hc : 2000 < c) : n < c := by omega
theorem part_loop (bs : List Int) (hb : Bytes bs) (hl : bs.length ≤ 2000) : ∀ (d : Nat) (l : List Int) (n i p : Int), n - i ≤ d → 0 ≤ i → (l.length : Int) ≤ i → (l.length : Int) ≤ 12 → n ≤ 12 → 0 ≤ p → p + 2 * d ≤ 900000000 →
    Evs (fun k => spec_l91Part.l0 k l n i bs p) (fun r => r.2.1.length ≤ 12 ∧ p ≤ r.2.2 ∧ r.2.2 ≤ p + 2 * d) := by
  intro d
  induction d with
  | zero =>
    intro l n i p hd hi hll h12 hn h0 h1
    refine Evs.succ ?_
    simp only [spec_l91Part.l0, if_neg (show ¬ i < n by omega)]
    exact Evs.done ⟨by dsimp only; omega, by dsimp only; omega, by dsimp only; omega⟩
  | succ d ih =>
    intro l n i p hd hi hll h12 hn h0 h1
    refine Evs.succ ?_
    by_cases hlt : i < n
    · have e1 : wrap64 (i + 1) = i + 1 := wrap_id (by omega) (by omega)
      simp only [spec_l91Part.l0, if_pos hlt, bsome, e1]
      refine Evs.bind (pick_evs bs p 256 hb hl h0 (by omega) (by omega)) ?_
      rintro ⟨u, _⟩ ⟨u0, u1, rfl⟩
      refine Evs.bind (pick_evs bs (p + 1) 4 hb hl (by omega) (by omega) (by omega)) ?_
      rintro ⟨v, _⟩ ⟨v0, v1, rfl⟩
      simp only [if_pos v0, if_pos (show v < (([1, 2, 3, u] : List Int).length : Int) from v1), if_pos (show l.length < 17592186044416 from lim2 (by omega) (by omega))]
      have h := ih (l ++ [rd [1, 2, 3, u] v]) n (i + 1) (p + 1 + 1) (by omega) (by omega) (by simp; omega) (by simp; omega) hn (by omega) (by omega)
      exact h.mono (fun r hr => ⟨hr.1, by have := hr.2.1; omega, by have := hr.2.2; omega⟩)
    · simp only [spec_l91Part.l0, if_neg hlt]
      exact Evs.done ⟨by dsimp only; omega, by dsimp only; omega, by dsimp only; omega⟩
theorem part_evs (bs : List Int) (hb : Bytes bs) (hl : bs.length ≤ 2000) (p : Int) (h0 : 0 ≤ p) (h1 : p ≤ 800000000) : Evs (fun k => spec_l91Part.f k bs p) (fun r => r.2.1.length ≤ 12 ∧ p ≤ r.2.2 ∧ r.2.2 ≤ p + 30) := by
  unfold spec_l91Part.f
  refine Evs.bind (pick_evs bs p 4 hb hl h0 (by omega) (by omega)) ?_
  rintro ⟨u, _⟩ ⟨u0, u1, rfl⟩
  by_cases hu : u = 0
  · simp only [if_pos hu]
    exact Evs.done ⟨by simp, by dsimp only; omega, by dsimp only; omega⟩
  · simp only [if_neg hu, bsome]
    refine Evs.bind (pick_evs bs (p + 1) 5 hb hl (by omega) (by omega) (by omega)) ?_
    rintro ⟨v, _⟩ ⟨v0, v1, rfl⟩
    refine Evs.bind (pick_evs bs (p + 1 + 1) 12 hb hl (by omega) (by omega) (by omega)) ?_
    rintro ⟨x, _⟩ ⟨x0, x1, rfl⟩
    by_cases hx : x = 0
    · simp only [if_pos hx]
      refine Evs.succ ?_
      simp only [spec_l91Part.j0]
      have h := part_loop bs hb hl 12 [] 12 0 (p + 1 + 1 + 1) (by omega) (by omega) (by simp) (by simp) (by omega) (by omega) (by omega)
      exact h.mono (fun r hr => ⟨hr.1, by have := hr.2.1; omega, by have := hr.2.2; omega⟩)
    · simp only [if_neg hx]
      refine Evs.succ ?_
      simp only [spec_l91Part.j0]
      have h := part_loop bs hb hl 12 [] v 0 (p + 1 + 1 + 1) (by omega) (by omega) (by simp) (by simp) (by omega) (by omega) (by omega)
      exact h.mono (fun r hr => ⟨hr.1, by have := hr.2.1; omega, by have := hr.2.2; omega⟩)
def drawnR (n : Nat) (l : List Rc) : Prop := l.length ≤ n ∧ ∀ r ∈ l, r.f3.length ≤ 12 ∧ r.f5.length ≤ 12
theorem drawnR_small {n : Nat} (hn : n ≤ 100000) {l : List Rc} (h : drawnR n l) : smallRs l := ⟨by have := h.1; omega, fun r hr => ⟨by have := (h.2 r hr).1; omega, by have := (h.2 r hr).2; omega⟩⟩
theorem drawnR_add {n : Nat} {l : List Rc} (h : drawnR n l) {r : Rc} (h3 : r.f3.length ≤ 12) (h5 : r.f5.length ≤ 12) : drawnR (n + 1) (l ++ [r]) := by
  refine ⟨by have := h.1; simp; omega, fun x hx => ?_⟩
  rcases List.mem_append.1 hx with hx | hx
  · exact h.2 x hx
  · rw [List.mem_singleton.1 hx]
    exact ⟨h3, h5⟩
theorem drawnR_mono {n m : Nat} {l : List Rc} (h : drawnR n l) (hm : n ≤ m) : drawnR m l := ⟨by have := h.1; omega, h.2⟩
theorem recs_loop (bs : List Int) (hb : Bytes bs) (hl : bs.length ≤ 2000) (n : Int) (hn : n ≤ 100) : ∀ (d : Nat) (o : Int) (l : List Rc) (t i p : Int), n - i ≤ d → 0 ≤ i → drawnR i.toNat l → (0 < i → 0 < l.length) → 0 ≤ p → p + 70 * d ≤ 700000000 →
    Evs (fun k => spec_l91Records.l0 k o l n t i bs p) (fun r => drawnR (max i n).toNat r.1 ∧ (0 < max i n → 0 < r.1.length) ∧ p ≤ r.2 ∧ r.2 ≤ p + 70 * d) := by
  intro d
  induction d with
  | zero =>
    intro o l t i p hd hi hll hpos h0 h1
    refine Evs.succ ?_
    simp only [spec_l91Records.l0, if_neg (show ¬ i < n by omega)]
    exact Evs.done ⟨by dsimp only; exact drawnR_mono hll (by omega), by dsimp only; intro h; exact hpos (by omega), by dsimp only; omega, by dsimp only; omega⟩
  | succ d ih =>
    intro o l t i p hd hi hll hpos h0 h1
    refine Evs.succ ?_
    by_cases hlt : i < n
    · have e1 : wrap64 (i + 1) = i + 1 := wrap_id (by omega) (by omega)
      have hlen := hll.1
      simp only [spec_l91Records.l0, if_pos hlt]
      refine Evs.bind (part_evs bs hb hl p h0 (by omega)) ?_
      rintro ⟨kh, kl, p1⟩ ⟨hk, q0, q1⟩
      dsimp only at hk q0 q1 ⊢
      refine Evs.bind (part_evs bs hb hl p1 (by omega) (by omega)) ?_
      rintro ⟨vh, vl, p2⟩ ⟨hv, q2, q3⟩
      dsimp only at hv q2 q3 ⊢
      have main : ∀ (c : Bool) (q : Int), 0 ≤ q → p ≤ q → q ≤ p2 + 1 → Evs (fun k => spec_l91Records.j1 k o l n t i vh vl c bs q o t kh kl false) (fun r => drawnR (max i n).toNat r.1 ∧ (0 < max i n → 0 < r.1.length) ∧ p ≤ r.2 ∧ r.2 ≤ p + 70 * (d + 1 : Nat)) := by
        intro c q hq0 hq1 hq2
        refine Evs.succ ?_
        have hlim : l.length < 1759218604441 := lim2 (by omega) (by omega)
        cases c with
        | true =>
          simp only [spec_l91Records.j1, if_true, if_pos hlim, e1]
          refine Evs.bind (pick_evs bs q 3 hb hl (by omega) (by omega) (by omega)) ?_
          rintro ⟨u, _⟩ ⟨u0, u1, rfl⟩
          refine Evs.bind (pick_evs bs (q + 1) 5 hb hl (by omega) (by omega) (by omega)) ?_
          rintro ⟨v, _⟩ ⟨v0, v1, rfl⟩
          refine Evs.bind (pick_evs bs (q + 1 + 1) 30 hb hl (by omega) (by omega) (by omega)) ?_
          rintro ⟨x, _⟩ ⟨x0, x1, rfl⟩
          have h := ih (wrap64 (wrap64 (o + 1) + wrap64 (Int.tdiv v 4))) (l ++ [⟨o, t, kh, [u], vh, vl⟩]) (mx (wrap64 (wrap64 (t + x) - 6)) 0) (i + 1) (q + 1 + 1 + 1) (by omega) (by omega) (drawnR_mono (drawnR_add hll (by simp) hv) (by omega)) (fun _ => by simp) (by omega) (by omega)
          rw [show max (i + 1) n = max i n by omega] at h
          exact h.mono (fun r hr => ⟨hr.1, hr.2.1, by have := hr.2.2.1; omega, by have := hr.2.2.2; omega⟩)
        | false =>
          simp only [spec_l91Records.j1, Bool.false_eq_true, if_false, if_pos hlim, e1]
          refine Evs.bind (pick_evs bs q 5 hb hl (by omega) (by omega) (by omega)) ?_
          rintro ⟨v, _⟩ ⟨v0, v1, rfl⟩
          refine Evs.bind (pick_evs bs (q + 1) 30 hb hl (by omega) (by omega) (by omega)) ?_
          rintro ⟨x, _⟩ ⟨x0, x1, rfl⟩
          have h := ih (wrap64 (wrap64 (o + 1) + wrap64 (Int.tdiv v 4))) (l ++ [⟨o, t, kh, kl, vh, vl⟩]) (mx (wrap64 (wrap64 (t + x) - 6)) 0) (i + 1) (q + 1 + 1) (by omega) (by omega) (drawnR_mono (drawnR_add hll hk hv) (by omega)) (fun _ => by simp) (by omega) (by omega)
          rw [show max (i + 1) n = max i n by omega] at h
          exact h.mono (fun r hr => ⟨hr.1, hr.2.1, by have := hr.2.2.1; omega, by have := hr.2.2.2; omega⟩)
      by_cases hkh : kh = true
      · simp only [if_pos hkh]
        refine Evs.bind (pick_evs bs p2 2 hb hl (by omega) (by omega) (by omega)) ?_
        rintro ⟨u, _⟩ ⟨u0, u1, rfl⟩
        exact main (u == 0) (p2 + 1) (by omega) (by omega) (by omega)
      · simp only [if_neg hkh]
        exact main false p2 (by omega) (by omega) (by omega)
    · simp only [spec_l91Records.l0, if_neg hlt]
      exact Evs.done ⟨by dsimp only; exact drawnR_mono hll (by omega), by dsimp only; intro h; exact hpos (by omega), by dsimp only; omega, by dsimp only; omega⟩
theorem recs_evs (bs : List Int) (hb : Bytes bs) (hl : bs.length ≤ 2000) (p o m : Int) (h0 : 0 ≤ p) (h1 : p ≤ 600000000) (hm : 1 ≤ m) (hm2 : m ≤ 10) : Evs (fun k => spec_l91Records.f k bs p o m) (fun r => drawnR m.toNat r.1 ∧ 0 < r.1.length ∧ p ≤ r.2 ∧ r.2 ≤ p + 800) := by
  unfold spec_l91Records.f
  refine Evs.bind (pick_evs bs p m hb hl h0 (by omega) hm) ?_
  rintro ⟨u, _⟩ ⟨u0, u1, rfl⟩
  refine Evs.bind (pick_evs bs (p + 1) 200 hb hl (by omega) (by omega) (by omega)) ?_
  rintro ⟨v, _⟩ ⟨v0, v1, rfl⟩
  simp only [show wrap64 (1 + u) = 1 + u from wrap_id (by omega) (by omega)]
  have h := recs_loop bs hb hl (1 + u) (by omega) 10 o [] v 0 (p + 1 + 1) (by omega) (by omega) ⟨by simp, fun r hr => by cases hr⟩ (fun h => by omega) (by omega) (by omega)
  exact h.mono (fun r hr => ⟨drawnR_mono hr.1 (by omega), hr.2.1 (by omega), by have := hr.2.2.1; omega, by have := hr.2.2.2; omega⟩)
end Go.Proofs.Yticpnjhkdfdkkaa.Q
namespace Go.Proofs.Yticpnjhkdfdkkaa.Q
open Go.RowKit Go.Proofs.Yticpnjhkdfdkkaa.T Go.Proofs.YticpnjhkdfdkkaaW.PrintWords Go.Proofs.YticpnjhkdfdkkaaW.PrintLast
set_option linter.unusedVariables false
set_option linter.unusedSimpArgs false
theorem markRow_small (o t : Int) (g : Bool) : smallRs (markRow o t g) := by
  refine ⟨by simp [markRow], fun r hr => ?_⟩
  rw [List.mem_singleton.1 hr]
  exact ⟨by simp, by simp⟩
noncomputable def markB (p e o t : Int) (g : Bool) : Bool × Bool × Int × Int × Int × List Rc × Bool := if vb true p e 0 (markRow o t g) = true then (false, true, p, e, 0, markRow o t g, true) else (false, false, 0, 0, 0, [], false)
theorem specMark (p e o t : Int) (g : Bool) : Ev (fun k => spec_MarkBatch.f k p e o t g) (markB p e o t g) := by
  have h := specB false true p e 0 (markRow o t g) (markRow_small o t g)
  unfold spec_MarkBatch.f markB
  refine Ev.bind h ?_
  by_cases hv : vb true p e 0 (markRow o t g) = true
  · simp only [if_pos hv]; exact ev_some _
  · simp only [if_neg hv]; exact ev_some _
end Go.Proofs.Yticpnjhkdfdkkaa.Q
namespace Go.Proofs.Yticpnjhkdfdkkaa.Q
open Go.RowKit Go.Proofs.Yticpnjhkdfdkkaa.T Go.Proofs.YticpnjhkdfdkkaaW.PrintWords Go.Proofs.YticpnjhkdfdkkaaW.PrintLast
set_option linter.unusedVariables false
set_option linter.unusedSimpArgs false
def drawnBs (n : Nat) (l : List Bt) : Prop := l.length ≤ n ∧ ∀ b ∈ l, drawnR 5 b.f5
theorem drawnBs_add {n : Nat} {l : List Bt} (h : drawnBs n l) {b : Bt} (hb : drawnR 5 b.f5) : drawnBs (n + 1) (l ++ [b]) := by
  refine ⟨by have := h.1; simp; omega, fun x hx => ?_⟩
  rcases List.mem_append.1 hx with hx | hx
  · exact h.2 x hx
  · rw [List.mem_singleton.1 hx]; exact hb
theorem drawnBs_mono {n m : Nat} {l : List Bt} (h : drawnBs n l) (hm : n ≤ m) : drawnBs m l := ⟨by have := h.1; omega, h.2⟩
theorem drawnBs_small {l : List Bt} (h : drawnBs 10 l) : smallBs l := ⟨by have := h.1; omega, fun b hb => drawnR_small (by omega) (h.2 b hb)⟩
theorem drawnBs_set {n : Nat} {l : List Bt} (h : drawnBs n l) (i : Nat) {b : Bt} (hb : drawnR 5 b.f5) : drawnBs n (l.set i b) := by
  refine ⟨by rw [List.length_set]; exact h.1, fun x hx => ?_⟩
  rcases List.mem_or_eq_of_mem_set hx with hx | hx
  · exact h.2 x hx
  · rw [hx]; exact hb
theorem markRow_drawn (o t : Int) (g : Bool) : drawnR 5 (markRow o t g) := by
  refine ⟨by simp [markRow], fun r hr => ?_⟩
  rw [List.mem_singleton.1 hr]
  exact ⟨by simp, by simp⟩
theorem decided_loop (bs : List Int) (hb : Bytes bs) (hl : bs.length ≤ 2000) (n : Int) (hn : n ≤ 10) (hn2 : 1 ≤ n) : ∀ (d : Nat) (l : List Bt) (o i p : Int), n - i ≤ d → 0 ≤ i → i ≤ n → drawnBs i.toNat l → (0 < i → 0 < l.length) → 0 ≤ p → p + 1000 * d ≤ 400000000 →
    Evs (fun k => spec_l92Decided.l0 k l n o i bs p) (fun r => drawnBs 10 r.1) := by
  intro d
  induction d with
  | zero =>
    intro l o i p hd hi hin hdr hpos h0 h1
    refine Evs.succ ?_
    simp only [spec_l92Decided.l0, if_neg (show ¬ i < n by omega)]
    refine Evs.bind (pick_evs bs p 24 hb hl h0 (by omega) (by omega)) ?_
    rintro ⟨u, _⟩ ⟨u0, u1, rfl⟩
    by_cases hu : u = 0
    · have hlp := hpos (by omega)
      simp only [if_pos hu, if_pos (show 0 < (l.length : Int) by omega)]
      refine Evs.done (drawnBs_set (drawnBs_mono hdr (by omega)) _ ?_)
      show drawnR 5 (rb l ((0 : Nat) : Int)).f5
      rw [rb_nat l 0 hlp]
      exact hdr.2 _ (List.getElem_mem hlp)
    · simp only [if_neg hu]
      exact Evs.done (drawnBs_mono hdr (by omega))
  | succ d ih =>
    intro l o i p hd hi hin hdr hpos h0 h1
    by_cases hlt : i < n
    · have e1 : wrap64 (i + 1) = i + 1 := wrap_id (by omega) (by omega)
      have hlen := hdr.1
      refine Evs.succ ?_
      simp only [spec_l92Decided.l0, if_pos hlt]
      refine Evs.bind (pick_evs bs p 2 hb hl h0 (by omega) (by omega)) ?_
      rintro ⟨u, _⟩ ⟨u0, u1, rfl⟩
      refine Evs.bind (recs_evs bs hb hl (p + 1) o 2 (by omega) (by omega) (by omega) (by omega)) ?_
      rintro ⟨rs, q⟩ ⟨hd4, hrp, q0, q1⟩
      dsimp only at hd4 hrp q0 q1 ⊢
      have hlen2 := hd4.1
      refine Evs.bind (pick_evs bs q 6 hb hl (by omega) (by omega) (by omega)) ?_
      rintro ⟨v, _⟩ ⟨v0, v1, rfl⟩
      have next : ∀ (b : Bt) (o' p' : Int), drawnR 5 b.f5 → 0 ≤ p' → p' ≤ p + 1000 → Evs (fun k => spec_l92Decided.l0 k (l ++ [b]) n o' (i + 1) bs p') (fun r => drawnBs 10 r.1) := fun b o' p' hb' h0' h1' =>
        ih (l ++ [b]) o' (i + 1) p' (by omega) (by omega) (by omega) (drawnBs_mono (drawnBs_add hdr hb') (by omega)) (fun _ => by simp) h0' (by omega)
      have hlim : l.length < 2513169434916 := lim2 (by omega) (by omega)
      have w1 : ∀ x : List Rc, 0 < x.length → x.length ≤ 5 → wrap64 ((x.length : Int) - 1) = (x.length : Int) - 1 := fun x hx hx2 => wrap_id (by omega) (by omega)
      have main : ∀ c : Bool, Evs (fun k => spec_l92Decided.j1 k l n o i v c bs (q + 1) false false u 0 0 rs) (fun r => drawnBs 10 r.1) := by
        intro c
        refine Evs.succ ?_
        cases c with
        | true =>
          simp only [spec_l92Decided.j1, if_true]
          refine Evs.bind (pick_evs bs (q + 1) 2 hb hl (by omega) (by omega) (by omega)) ?_
          rintro ⟨a, _⟩ ⟨a0, a1, rfl⟩
          refine Evs.bind (pick_evs bs (q + 1 + 1) 100 hb hl (by omega) (by omega) (by omega)) ?_
          rintro ⟨c1, _⟩ ⟨c0, c2, rfl⟩
          refine Evs.bind (pick_evs bs (q + 1 + 1 + 1) 2 hb hl (by omega) (by omega) (by omega)) ?_
          rintro ⟨e, _⟩ ⟨e0, e2, rfl⟩
          refine Evs.bind (Evs.of (specMark a 0 o c1 (e == 0)) rfl) ?_
          rintro _ rfl
          unfold markB
          by_cases hv : vb true a 0 0 (markRow o c1 (e == 0)) = true
          · have hml : (markRow o c1 (e == 0)).length = 1 := by simp [markRow]
            simp only [if_pos hv, if_true, if_pos hlim, w1 _ (show 0 < (markRow o c1 (e == 0)).length by omega) (by omega), if_pos (show 0 ≤ ((markRow o c1 (e == 0)).length : Int) - 1 by omega), if_pos (show ((markRow o c1 (e == 0)).length : Int) - 1 < ((markRow o c1 (e == 0)).length : Int) by omega), e1]
            exact next _ _ _ (markRow_drawn _ _ _) (by omega) (by omega)
          · simp only [if_neg hv, Bool.false_eq_true, if_false, if_pos hlim, w1 rs hrp (by omega), if_pos (show 0 ≤ (rs.length : Int) - 1 by omega), if_pos (show (rs.length : Int) - 1 < (rs.length : Int) by omega), e1]
            exact next _ _ _ (drawnR_mono hd4 (by omega)) (by omega) (by omega)
        | false =>
          simp only [spec_l92Decided.j1, Bool.false_eq_true, if_false]
          by_cases hv2 : v = 2
          · simp only [if_pos hv2, if_pos hlim, w1 rs hrp (by omega), if_pos (show 0 ≤ (rs.length : Int) - 1 by omega), if_pos (show (rs.length : Int) - 1 < (rs.length : Int) by omega), e1]
            exact next _ _ _ (drawnR_mono hd4 (by omega)) (by omega) (by omega)
          · simp only [if_neg hv2, if_pos hlim, w1 rs hrp (by omega), if_pos (show 0 ≤ (rs.length : Int) - 1 by omega), if_pos (show (rs.length : Int) - 1 < (rs.length : Int) by omega), e1]
            exact next _ _ _ (drawnR_mono hd4 (by omega)) (by omega) (by omega)
      by_cases hv0 : v = 0
      · simp only [if_pos hv0]; exact main _
      · simp only [if_neg hv0]; exact main _
    · have hni : i = n := by omega
      subst hni
      refine Evs.succ ?_
      simp only [spec_l92Decided.l0, if_neg (show ¬ i < i by omega)]
      refine Evs.bind (pick_evs bs p 24 hb hl h0 (by omega) (by omega)) ?_
      rintro ⟨u, _⟩ ⟨u0, u1, rfl⟩
      by_cases hu : u = 0
      · have hlp := hpos (by omega)
        simp only [if_pos hu, if_pos (show 0 < (l.length : Int) by omega)]
        refine Evs.done (drawnBs_set (drawnBs_mono hdr (by omega)) _ ?_)
        show drawnR 5 (rb l ((0 : Nat) : Int)).f5
        rw [rb_nat l 0 hlp]
        exact hdr.2 _ (List.getElem_mem hlp)
      · simp only [if_neg hu]
        exact Evs.done (drawnBs_mono hdr (by omega))
theorem decided_evs (bs : List Int) (hb : Bytes bs) (hl : bs.length ≤ 2000) : Evs (fun k => spec_l92Decided.f k bs 0) (fun r => drawnBs 10 r.1) := by
  unfold spec_l92Decided.f
  refine Evs.bind (pick_evs bs 0 6 hb hl (by omega) (by omega) (by omega)) ?_
  rintro ⟨u, _⟩ ⟨u0, u1, rfl⟩
  refine Evs.bind (pick_evs bs (0 + 1) 5 hb hl (by omega) (by omega) (by omega)) ?_
  rintro ⟨v, _⟩ ⟨v0, v1, rfl⟩
  have e : wrap64 (2 + u) = 2 + u := wrap_id (by omega) (by omega)
  simp only [e]
  exact decided_loop bs hb hl (2 + u) (by omega) (by omega) 10 [] v 0 (0 + 1 + 1) (by omega) (by omega) (by omega) ⟨by simp, fun b hb => by cases hb⟩ (fun h => by omega) (by omega) (by omega)
end Go.Proofs.Yticpnjhkdfdkkaa.Q
namespace Go.Proofs.Yticpnjhkdfdkkaa.Q
open Go.RowKit Go.Proofs.Yticpnjhkdfdkkaa.T Go.Proofs.YticpnjhkdfdkkaaW.PrintWords Go.Proofs.YticpnjhkdfdkkaaW.PrintLast
set_option linter.unusedVariables false
set_option linter.unusedSimpArgs false
theorem drawUndone {l0 : List Int} (hb : Bytes l0) : Evs (fun k => spec_DrawUndoneOf.f k l0) (fun r => drawnBs 10 r) := by
  obtain ⟨b, ho, hb2, hbl⟩ := open_ev l0 hb
  unfold spec_DrawUndoneOf.f
  simp only [ho, bsome]
  refine Evs.bind (decided_evs b hb2 hbl) ?_
  rintro ⟨r, p⟩ h
  exact Evs.done h
end Go.Proofs.Yticpnjhkdfdkkaa.Q
namespace Go.Proofs.Yticpnjhkdfdkkaa.Pure
open Go.RowKit Go.Proofs.Yticpnjhkdfdkkaa.T Go.Proofs.YticpnjhkdfdkkaaW.PrintWords Go.Proofs.YticpnjhkdfdkkaaW.PrintLast Go.Proofs.Yticpnjhkdfdkkaa.Q
set_option linter.unusedVariables false
set_option linter.unusedSimpArgs false
def ltU (u v : Un) : Prop := u.f1 < v.f1 ∧ (u.f0 = v.f0 → u.f2 < v.f1)
theorem fsA_last {l : List Bt} {i i1 : Nat} (hp : pr l i1 = pr l i) (hm : mk l i1 = false) : ∀ m : Nat, fsA l i m = true → i1 < m → ∃ k, i1 < k ∧ k < m ∧ mk l k = true ∧ pr l k = pr l i
  | 0, _, h => by omega
  | m + 1, h, h1 => by
    by_cases hpm : pr l m = pr l i
    · have : mk l m = true := by rw [show fsA l i (m + 1) = mk l m from if_pos hpm] at h; exact h
      have hne : i1 ≠ m := fun e => by subst e; rw [hm] at this; cases this
      exact ⟨m, by omega, by omega, this, hpm⟩
    · have h2 : fsA l i m = true := by rw [show fsA l i (m + 1) = fsA l i m from if_neg hpm] at h; exact h
      have hne : i1 ≠ m := fun e => by subst e; exact hpm hp
      obtain ⟨k, a, b, c, d⟩ := fsA_last hp hm m h2 (by omega)
      exact ⟨k, a, by omega, c, d⟩
theorem uAt_some {l : List Bt} {i : Nat} {u : Un} (h : uAt l i = some u) : ∃ j, nm l l.length i = some j ∧ (pr l i ≠ 255 ∧ mk l i = false) ∧ fsA l i i = true ∧ u = ⟨pr l i, fOff (rb l (i : Int)), fOff (rb l (j : Int))⟩ := by
  unfold uAt at h
  cases hn : nm l l.length i with
  | none => rw [hn] at h; cases h
  | some j =>
    rw [hn] at h
    dsimp only at h
    split at h
    · rename_i hc
      exact ⟨j, rfl, hc.1, hc.2.2, (Option.some.inj h).symm⟩
    · cases h
theorem und_pairs (l : List Bt) (hv : VL l) : (undTo l l.length).Pairwise ltU := by
  unfold undTo
  rw [List.pairwise_filterMap]
  refine List.Pairwise.imp ?_ List.pairwise_lt_range
  intro i1 i2 hlt u hu v hv2
  obtain ⟨j1, hn1, hc1, hf1, rfl⟩ := uAt_some hu
  obtain ⟨j2, hn2, hc2, hf2, rfl⟩ := uAt_some hv2
  have a1 := nm_some hn1
  have a2 := nm_some hn2
  refine ⟨VL_lt' hv hlt (by omega), fun he => ?_⟩
  dsimp only at he ⊢
  obtain ⟨k, b1, b2, b3, b4⟩ := fsA_last he hc1.2 i2 hf2 hlt
  have hjk : ¬ k < j1 := fun hk => nm_none (nm_first hn1) k b1 hk ⟨b3, b4.trans he.symm⟩
  exact VL_lt' hv (by omega) (by omega)
theorem order_l1 (out : List Un) (hs : out.length ≤ 2000000) (hp : out.Pairwise ltU) (x : Nat) (hx : x < out.length) (hn : Ev (fun k => laws_FnUndoneOrder.l0 k out ((x + 1 : Nat) : Int)) true) : ∀ (d m : Nat), x - m = d → m ≤ x → Ev (fun k => laws_FnUndoneOrder.l1 k out (x : Int) (m : Int)) true := by
  have e0 : wrap64 ((x : Int) + 1) = ((x + 1 : Nat) : Int) := by rw [wrap_id (by omega) (by omega)]; omega
  intro d
  induction d with
  | zero =>
    intro m hd hm
    refine ev_succ ?_
    simp only [laws_FnUndoneOrder.l1, if_neg (show ¬ (m : Int) < (x : Int) by omega), e0]
    exact hn
  | succ d ih =>
    intro m hd hm
    have e1 : wrap64 ((m : Int) + 1) = ((m + 1 : Nat) : Int) := by rw [wrap_id (by omega) (by omega)]; omega
    have hlt : ltU (ru out (m : Int)) (ru out (x : Int)) := by
      rw [ru_nat out m (by omega), ru_nat out x hx]
      exact List.pairwise_iff_getElem.1 hp m x (by omega) hx (by omega)
    have h1 := hlt.1
    refine ev_succ ?_
    simp only [laws_FnUndoneOrder.l1, if_pos (show (m : Int) < (x : Int) by omega), if_pos (show (0 : Int) ≤ (m : Int) by omega), if_pos (show (m : Int) < (out.length : Int) by omega), if_pos (show (0 : Int) ≤ (x : Int) by omega), if_pos (show (x : Int) < (out.length : Int) by omega), e1]
    simp only [if_neg (show ¬ (rd_T46 out (m : Int)).f1 ≥ (rd_T46 out (x : Int)).f1 from Int.not_le.2 h1)]
    by_cases h2 : (ru out (m : Int)).f0 = (ru out (x : Int)).f0
    · have h3 := hlt.2 h2
      simp only [if_pos (show (rd_T46 out (m : Int)).f0 = (rd_T46 out (x : Int)).f0 from h2), if_neg (show ¬ (rd_T46 out (m : Int)).f2 ≥ (rd_T46 out (x : Int)).f1 from Int.not_le.2 h3)]
      exact ih (m + 1) (by omega) (by omega)
    · simp only [if_neg (show ¬ (rd_T46 out (m : Int)).f0 = (rd_T46 out (x : Int)).f0 from h2)]
      exact ih (m + 1) (by omega) (by omega)
theorem order_l0 (out : List Un) (hs : out.length ≤ 2000000) (hp : out.Pairwise ltU) : ∀ (d x : Nat), out.length - x = d → x ≤ out.length → Ev (fun k => laws_FnUndoneOrder.l0 k out (x : Int)) true := by
  intro d
  induction d with
  | zero =>
    intro x hd hx
    refine ev_succ ?_
    simp only [laws_FnUndoneOrder.l0, if_neg (show ¬ (x : Int) < (out.length : Int) by omega)]
    exact ev_some _
  | succ d ih =>
    intro x hd hx
    refine ev_succ ?_
    simp only [laws_FnUndoneOrder.l0, if_pos (show (x : Int) < (out.length : Int) by omega)]
    exact order_l1 out hs hp x (by omega) (ih (x + 1) (by omega) (by omega)) _ 0 rfl (by omega)
theorem FnUndoneOrder : laws_FnUndoneOrder.Pure := by
  intro l0 _ _ hb0
  refine Ev.rounds ?_
  have hb := bytes_of hb0
  unfold laws_FnUndoneOrder.f
  by_cases h : (l0.length : Int) > 1048576
  · simp only [if_pos h]
    exact ev_some _
  · simp only [if_neg h]
    obtain ⟨l, hd, hdr⟩ := drawUndone hb
    have hs := drawnBs_small hdr
    have hlen := und_len l hs.1
    refine Ev.bind hd ?_
    refine Ev.bind (implUnd l hs) ?_
    refine Ev.bind (specUnd l hs) ?_
    refine Ev.bind (sameU (und l) hlen) ?_
    simp only [if_true]
    refine order_l0 (und l) hlen ?_ _ 0 rfl (by omega)
    unfold und
    split
    · rename_i hv
      exact und_pairs l ((vl_iff l).1 hv)
    · exact List.Pairwise.nil
end Go.Proofs.Yticpnjhkdfdkkaa.Pure
namespace Go.Proofs.Yticpnjhkdfdkkaa.fnUndoneOrder
open Go.ChangeShapes Go.WideShapes Go.ChangeAt Go.RowKit
open Go.ChangeMaps (open_string shut_string)
set_option linter.unusedVariables false
theorem own : ownKnob Try.prog.godebug = none := by kernel_rfl
theorem laidOut : laidOutB Try.prog = true := by kernel_rfl
def IsRow (k : IntKind) (w : World) (a : Option Addr) (len cap : Nat) (zs : List Int) : Prop :=
  (a = none ∧ len = 0 ∧ cap = 0 ∧ zs = []) ∨
  ∃ x, a = some x ∧ len ≤ cap ∧ cap ≤ maxLen ∧ zs.length = cap ∧ (∀ i, i < zs.length → w.cell? (x.add i) = some (.int k (zs.getD i 0))) ∧ ∀ n ∈ zs, (Lit.int k n).wf = true
set_option maxRecDepth 100000 in
theorem lifted (os : Os) (started : os.Started) (H : Type) (enc : TypeId × Value → H) :
    ReturnsInHanded {} Try.checked os 9 .any (Rows.fnUndoneOrderSpec.pre6 enc Try.prog Try.f9 Rows.fnUndoneOrderRow.domain false) (Rows.fnUndoneOrderSpec.post enc Try.prog Try.f9 false true false false) := by
  refine returnsInHanded_of_change_sized (C := Try.checked) own started (by kernel_rfl) Try.func9
    (ChangeSpec.witness6 (enc := enc) (C := Try.checked) false ⟨#[], #[.slice none 0 0], []⟩ 8 (by kernel_rfl) (by kernel_rfl) (by kernel_rfl) (by kernel_rfl)) ?_
  intro W base args ds gs before hval0 hW hcnd hsz0 _
  have hsz : (DataW.weightsEach Try.prog (Try.f9.params.toList ++ Rows.fnUndoneOrderSpec.plain.varTypes Try.prog) (ds ++ gs)).all (· ≤ reachBytes) = true := hsz0
  have hval : ∀ (j : Nat) t v, Try.f9.params[j]? = some t → args[j]? = some v → Value.okWide Try.prog W .any base t v := hval0
  have hW' := hW
  obtain ⟨p, q, hA0, hV, rfl, hfz, hnd⟩ := hW
  have hA : DataW.TrodAll enc Try.prog W 0 (fun _ => true) true Try.f9.params.toList args.toList ds p := hA0
  rw [Try.params9] at hA hval hsz
  obtain ⟨v0, vs0, d0, ds0, p0, q0, hargs, rfl, rfl, h0, r0⟩ := trodAll_cons hA
  obtain ⟨rfl, rfl, rfl⟩ := trodAll_nil r0
  obtain rfl : args = #[v0] := by cases args; simp_all
  obtain ⟨rfl, rfl⟩ := trodVars_none hV
  obtain ⟨a0, len0, cap0, rfl⟩ := okWide_slice Try.underlying22 (hval 0 22 v0 rfl rfl)
  have k0 := h0
  have lt0 : ∀ x ∈ p0, x.block < W.heap.size := by obtain ⟨m, hm⟩ := k0; exact DataW.trod_lt m _ _ _ hm
  obtain ⟨z0, w0⟩ : ∃ zs, IsRow .u8 W a0 len0 cap0 zs := by
    obtain ⟨fuel, hf⟩ := h0
    rcases open_ints Try.underlying22 Try.underlying5 (by kernel_rfl) hf with ⟨hcs, _⟩ | ⟨x, l, c, zs, hcs, _, hl, hm, hz, _, hcell, hwz⟩
    · simp [Value.cells] at hcs
      obtain ⟨rfl, rfl, rfl⟩ := hcs
      exact ⟨[], .inl ⟨rfl, rfl, rfl, rfl⟩⟩
    · simp [Value.cells] at hcs
      obtain ⟨rfl, rfl, rfl⟩ := hcs
      exact ⟨zs, .inr ⟨_, rfl, hl, hm, by simpa using hz, hcell, hwz⟩⟩
  have y0 : len0 * 1 ≤ 140737488351232 := Go.Proofs.YticpnjhkdfdkkaaW.PrintWords.sized_ints hsz (j := 0) (t := 22) rfl rfl Try.underlying22 Try.underlying5 (by kernel_rfl) (by kernel_rfl) h0
  clear hA0 hval0 hsz0 hsz
  refine (T.laws_FnUndoneOrder.walk Pure.FnUndoneOrder a0 len0 cap0 z0 W w0 y0).mono fun e W' ⟨he, bel⟩ => ?_
  subst he
  exact ⟨_, rfl, _, _, _, [], _, [], hW', trodAll_mk1 (shut_bool Try.underlying4 _), (trodAll_cons_mk (Below.trod laidOut (by kernel_rfl) (of_decide_eq_true (by kernel_rfl)) k0 bel lt0) trodAll_mk0), rfl, bel.frame _, fun h => by cases h⟩
theorem closed : joinedFacts Try.prog 9 Try.f9 Rows.fnUndoneOrderSpec Rows.fnUndoneOrderRow = true :=
  Head.closed_of _ _ _ _ _ (by kernel_rfl) (by kernel_rfl) (by kernel_rfl) (by kernel_rfl) (by kernel_rfl) (by kernel_rfl) (by kernel_rfl) (by kernel_rfl) (by kernel_rfl) (by kernel_rfl) (by kernel_rfl) (by kernel_rfl) (by kernel_rfl) (by kernel_rfl) (by kernel_rfl) (by kernel_rfl) (by kernel_rfl) (by kernel_rfl) (by kernel_rfl) (by kernel_rfl) (by kernel_rfl) (by kernel_rfl) (by kernel_rfl) (by kernel_rfl) (by kernel_rfl) Head.may_enter (by rw [Head.lifts_final]; kernel_rfl) (by rw [Head.make_is]; kernel_rfl) (by kernel_rfl) (by kernel_rfl) (by kernel_rfl) (by kernel_rfl)
theorem over : Rows.fnUndoneOrderRow.holds Try.pinned (OpenSpec.ofChange Rows.fnUndoneOrderSpec) :=
  OpenClaim.holds_of_wide 9 Try.f9 rfl rfl rfl rfl rfl rfl rfl ⟨rfl, rfl, rfl, rfl, rfl⟩ rfl rfl rfl rfl rfl (by kernel_rfl) Try.func9 closed
    (of_decide_eq_true (by kernel_rfl)) (by unfold Func.isWrapper; first | (rw [if_pos (by decide +kernel)]; kernel_rfl) | (rw [if_neg (by decide +kernel)]; exact ⟨rfl, rfl⟩))
    (fun os started H enc _ => lifted os started H enc)
theorem proved : Rows.FnUndoneOrderSaid := over
end Go.Proofs.Yticpnjhkdfdkkaa.fnUndoneOrder
namespace Go.Proofs.Yticpnjhkdfdkkaa
theorem fnUndoneOrder_holds : Rows.FnUndoneOrderSaid := fnUndoneOrder.proved
end Go.Proofs.Yticpnjhkdfdkkaa
