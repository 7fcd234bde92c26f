/- FnRunTwice, part 5 of 6: merged by wip/tools/pack2.py out of the texts that the row reaches; the pure statement is the session's own. -/
import Derived.Test.YtkhmopmfbocokaaFnRunTwiceK3
open List (setIfInBounds_toArray set_cons_zero set_cons_succ map_toArray map_cons map_nil length_drop length_take)
namespace Go.Proofs.Ytkhmopmfbocokaa.T
open Go.RowKit Go.Proofs.YtkhmopmfbocokaaW.PrintWords Go.Proofs.YtkhmopmfbocokaaW.PrintLast Go.Proofs.YtkhmopmfbocokaaW.PrintMore
attribute [local go_sem] max2_int max_two
set_option linter.unusedVariables false
set_option linter.unusedSimpArgs false
def spec_l5Records.l0:Nat→List (S79)→Int→Option (Bool)
 | 0,_,_=>none
 | k+1,x0,x3=>if x3 < (x0.length:Int) then (if 0 ≤ x3 then ((spec_RecordValid.f k ((rd_T79 x0 x3).f0) ((rd_T79 x0 x3).f1) ((rd_T79 x0 x3).f2) ((rd_T79 x0 x3).f3) ((rd_T79 x0 x3).f4) ((rd_T79 x0 x3).f5)).bind fun t388=>(if t388=true then (if x3 > 0 then (if 0 ≤ (wrap64 (x3 - 1)) then (if (wrap64 (x3 - 1)) < (x0.length:Int) then (if ((rd_T79 x0 (wrap64 (x3 - 1))).f0) ≥ ((rd_T79 x0 x3).f0) then (some false) else (spec_l5Records.l0 k x0 (wrap64 (x3+1)))) else (none)) else (none)) else (spec_l5Records.l0 k x0 (wrap64 (x3+1)))) else (some false))) else (none)) else ((spec_l6In.f (x0.length:Int) 1 6).bind fun t391=>(some t391))
def spec_l5Records.f (k:Nat) (l0:List (S79)):Option (Bool):=spec_l5Records.l0 k l0 0
def spec_l5Records.T4:Bool × List (List Nat × List Nat):=(true,[([],[]),([],[]),([0,1],[0,1]),([2],[2]),([3],[3]),([4],[4]),([5,4],[5]),([6],[6]),([7,6],[6,7]),([8,6,6],[6,8]),([9],[9]),([9],[9]),([11,9],[9,11]),([10,12,9],[9,10,12]),([13,9],[9,13]),([14,9],[9,14]),([9],[9]),([9],[9]),([16,17,9],[9,16,17]),([18,9],[9,18]),([19,9],[9,19]),([15,20,9],[9,15,20]),([9,21,6],[6,9,21]),([6,22],[6,22])])
def spec_l5Records.B4:List Nat:=[0,0,3,7,15,31,63,127,255,511,1023,1023,3071,8191,16383,32767,1023,1023,197631,459775,984063,2097151,4194303,8388607]
theorem spec_l5Records.tab4:rtab .any (opsOf Try.f70 4)=spec_l5Records.T4:=by kernel_rfl
theorem spec_l5Records.bits4:waitsOk spec_l5Records.T4.2 spec_l5Records.B4=true:=by kernel_rfl
set_option maxHeartbeats 8000000 in
set_option maxRecDepth 100000 in
theorem spec_l5Records.calls (k:Nat) (A0:Option Addr) (c0:Nat) (l0:List (S79)) (r:Bool) (w:World) (hr0:Kd.C k79 w A0 l0.length l0) (hc0:l0.length ≤ c0) (h:spec_l5Records.f k l0=some r) :
  Calls Try.prog 70 #[.slice A0 l0.length c0] w fun e w'=>e = .returned (.bool r)∧Below w.heap.size w w':=by
 have hu79:=Try.underlying79
 have HR0:=Aside0.mk hr0
 have HC0:=Aside0.mk hc0
 clear hr0 hc0
 have HB:=Aside0.mk (Below.refl w.heap.size w)
 have H:(spec_l5Records.l0 k l0 0)=some r:=h
 clear h
 have H':=Aside0.mk H
 clear H
 go_enter Try.func70,Try.ntmps70
 go_wp2
 go_loopg [3] k (fun kq v3 w'=>∃ (x3_1:Int),v3 = .int .i64 x3_1∧Aside0 (spec_l5Records.l0 kq l0 x3_1=some r)∧Aside0 (kq ≤ k)∧Aside0 (Below w.heap.size w w'))
 case atStart=>exact ⟨(0),(by first|rfl|(simp;done)|(simp [*];done)),H',⟨Nat.le_refl _⟩,⟨by repeat (first|(with_reducible first|exact HB.out|apply below_alloc|apply pw_below_drewN|apply below_drew1)|exact HB.out)⟩⟩
 case round=>
  clear H'
  obtain ⟨x3_1,rfl,HA,HK1,HB⟩:=hrel
  cases gk with
  | zero=>exact absurd HA.out (by simp [spec_l5Records.l0])
  | succ k1=>
   have H:=HA.out
   clear HA
   simp only [spec_l5Records.l0] at H
   by_cases c2:x3_1 < (l0.length:Int)
   ·rw [if_pos c2] at H
    have c2b0:decide (x3_1 < (l0.length:Int))=true:=decide_eq_true c2
    clear c2
    by_cases c3 : 0 ≤ x3_1
    ·rw [if_pos c3] at H
     have c3b0:decide (0 ≤ x3_1)=true:=decide_eq_true c3
     clear c3
     replace H:=Option.bind_eq_some_iff.mp H
     obtain ⟨t388,A40,H⟩:=H
     replace H:(if t388=true then (if x3_1 > 0 then (if 0 ≤ (wrap64 (x3_1 - 1)) then (if (wrap64 (x3_1 - 1)) < (l0.length:Int) then (if ((rd_T79 l0 (wrap64 (x3_1 - 1))).f0) ≥ ((rd_T79 l0 x3_1).f0) then (some false) else (spec_l5Records.l0 k1 l0 (wrap64 (x3_1+1)))) else (none)) else (none)) else (spec_l5Records.l0 k1 l0 (wrap64 (x3_1+1)))) else (some false))=some r:=H
     have A4:=Aside0.mk A40
     clear A40
     by_cases c5:t388=true
     ·subst c5
      have H1:(if x3_1 > 0 then (if 0 ≤ (wrap64 (x3_1 - 1)) then (if (wrap64 (x3_1 - 1)) < (l0.length:Int) then (if ((rd_T79 l0 (wrap64 (x3_1 - 1))).f0) ≥ ((rd_T79 l0 x3_1).f0) then (some false) else (spec_l5Records.l0 k1 l0 (wrap64 (x3_1+1)))) else (none)) else (none)) else (spec_l5Records.l0 k1 l0 (wrap64 (x3_1+1))))=some r:=by rw [if_pos rfl] at H;exact H
      clear H
      have H:=H1
      clear H1
      by_cases c6:x3_1 > 0
      ·rw [if_pos c6] at H
       have c6b0:decide (0 < x3_1)=true:=decide_eq_true c6
       clear c6
       obtain ⟨ji7,hji7⟩:∃ j_:Int,(wrap64 (x3_1 - 1))=j_:=⟨_,rfl⟩
       replace H:(if 0 ≤ (ji7) then (if (ji7) < (l0.length:Int) then (if ((rd_T79 l0 (ji7)).f0) ≥ ((rd_T79 l0 x3_1).f0) then (some false) else (spec_l5Records.l0 k1 l0 (wrap64 (x3_1+1)))) else (none)) else (none))=some r:=by first|(rw [hji7] at H;exact H)|(simp only [hji7] at H ⊢;exact H)
       (try rw [hji7] at A4)
       have hji7w:(IntKind.i64.wrap (x3_1 - 1))=ji7:=(i64_w _).trans hji7
       by_cases c8 : 0 ≤ (ji7)
       ·rw [if_pos c8] at H
        have c8b0:decide (0 ≤ (ji7))=true:=decide_eq_true c8
        clear c8
        by_cases c9:(ji7) < (l0.length:Int)
        ·rw [if_pos c9] at H
         have c9b0:decide ((ji7) < (l0.length:Int))=true:=decide_eq_true c9
         clear c9
         by_cases c10:((rd_T79 l0 (ji7)).f0) ≥ ((rd_T79 l0 x3_1).f0)
         ·rw [if_pos c10] at H
          have c10b0:decide (((rd_T79 l0 x3_1).f0) ≤ ((rd_T79 l0 (ji7)).f0))=true:=decide_eq_true c10
          clear c10
          obtain rfl:=Option.some.inj H
          try go_wp2
          have n0_:=Aside0.mk (below_drew1 HB.out)
          clear HB
          have HB:=n0_
          clear n0_
          have p387 : 0 ≤ (x3_1:Int):=of_decide_eq_true (by first|(with_reducible assumption)|assumption)
          have q387:x3_1 < (l0.length:Int):=of_decide_eq_true (by first|(with_reducible assumption)|assumption)
          obtain ⟨ad387,A387_3,c387_3,A387_5,c387_5,e387,hx387_0,hx387_1,hx387_2,hx387_3,hx387_4,hx387_5,hl387_3,hi387_3,hl387_5,hi387_5⟩:=at_T79 HR0.out x3_1 p387 q387
          have hw387_5:=hx387_5
          have hw387_4:=hx387_4
          have hw387_3:=hx387_3
          have hw387_2:=hx387_2
          have hw387_1:=hx387_1
          have hw387_0:=hx387_0
          cases e387
          replace hx387_0:=(HB.out.cell (World.block_lt_of_cell? w _ hx387_0)).trans hx387_0
          replace hx387_1:=(HB.out.cell (World.block_lt_of_cell? w _ hx387_1)).trans hx387_1
          replace hx387_2:=(HB.out.cell (World.block_lt_of_cell? w _ hx387_2)).trans hx387_2
          replace hx387_3:=(HB.out.cell (World.block_lt_of_cell? w _ hx387_3)).trans hx387_3
          replace hx387_4:=(HB.out.cell (World.block_lt_of_cell? w _ hx387_4)).trans hx387_4
          replace hx387_5:=(HB.out.cell (World.block_lt_of_cell? w _ hx387_5)).trans hx387_5
          have HR387_3:=Aside0.mk hi387_3
          have HC387_3:=Aside0.mk hl387_3
          clear hi387_3 hl387_3
          have HR387_5:=Aside0.mk hi387_5
          have HC387_5:=Aside0.mk hl387_5
          clear hi387_5 hl387_5
          replace p387:=eq_true p387
          replace q387:=eq_true q387
          have p389 : 0 ≤ ((ji7):Int):=of_decide_eq_true (by first|(with_reducible assumption)|assumption)
          have q389:(ji7) < (l0.length:Int):=of_decide_eq_true (by first|(with_reducible assumption)|assumption)
          obtain ⟨ad389,A389_3,c389_3,A389_5,c389_5,e389,hx389_0,hx389_1,hx389_2,hx389_3,hx389_4,hx389_5,hl389_3,hi389_3,hl389_5,hi389_5⟩:=at_T79 HR0.out (ji7) p389 q389
          have hw389_5:=hx389_5
          have hw389_4:=hx389_4
          have hw389_3:=hx389_3
          have hw389_2:=hx389_2
          have hw389_1:=hx389_1
          have hw389_0:=hx389_0
          obtain rfl:ad387=ad389:=(by injection e389)
          replace hx389_0:=(HB.out.cell (World.block_lt_of_cell? w _ hx389_0)).trans hx389_0
          replace hx389_1:=(HB.out.cell (World.block_lt_of_cell? w _ hx389_1)).trans hx389_1
          replace hx389_2:=(HB.out.cell (World.block_lt_of_cell? w _ hx389_2)).trans hx389_2
          replace hx389_3:=(HB.out.cell (World.block_lt_of_cell? w _ hx389_3)).trans hx389_3
          replace hx389_4:=(HB.out.cell (World.block_lt_of_cell? w _ hx389_4)).trans hx389_4
          replace hx389_5:=(HB.out.cell (World.block_lt_of_cell? w _ hx389_5)).trans hx389_5
          have HR389_3:=Aside0.mk hi389_3
          have HC389_3:=Aside0.mk hl389_3
          clear hi389_3 hl389_3
          have HR389_5:=Aside0.mk hi389_5
          have HC389_5:=Aside0.mk hl389_5
          clear hi389_5 hl389_5
          replace p389:=eq_true p389
          replace q389:=eq_true q389
          have p390 : 0 ≤ (x3_1:Int):=of_decide_eq_true (by first|(with_reducible assumption)|assumption)
          have q390:x3_1 < (l0.length:Int):=of_decide_eq_true (by first|(with_reducible assumption)|assumption)
          obtain ⟨ad390,A390_3,c390_3,A390_5,c390_5,e390,hx390_0,hx390_1,hx390_2,hx390_3,hx390_4,hx390_5,hl390_3,hi390_3,hl390_5,hi390_5⟩:=at_T79 HR0.out x3_1 p390 q390
          have hw390_5:=hx390_5
          have hw390_4:=hx390_4
          have hw390_3:=hx390_3
          have hw390_2:=hx390_2
          have hw390_1:=hx390_1
          have hw390_0:=hx390_0
          obtain rfl:ad387=ad390:=(by injection e390)
          replace hx390_0:=(HB.out.cell (World.block_lt_of_cell? w _ hx390_0)).trans hx390_0
          replace hx390_1:=(HB.out.cell (World.block_lt_of_cell? w _ hx390_1)).trans hx390_1
          replace hx390_2:=(HB.out.cell (World.block_lt_of_cell? w _ hx390_2)).trans hx390_2
          replace hx390_3:=(HB.out.cell (World.block_lt_of_cell? w _ hx390_3)).trans hx390_3
          replace hx390_4:=(HB.out.cell (World.block_lt_of_cell? w _ hx390_4)).trans hx390_4
          replace hx390_5:=(HB.out.cell (World.block_lt_of_cell? w _ hx390_5)).trans hx390_5
          have HR390_3:=Aside0.mk hi390_3
          have HC390_3:=Aside0.mk hl390_3
          clear hi390_3 hl390_3
          have HR390_5:=Aside0.mk hi390_5
          have HC390_5:=Aside0.mk hl390_5
          clear hi390_5 hl390_5
          replace p390:=eq_true p390
          replace q390:=eq_true q390
          refine start_ (n:=24) (S:=fun w'=>w'.cell? (ad387.add ((x3_1).toNat * 6))=some (.int .i64 ((rd_T79 l0 x3_1).f0))∧w'.cell? ⟨(ad387.add ((x3_1).toNat * 6)).block,(ad387.add ((x3_1).toNat * 6)).off+1,none⟩=some (.int .i64 ((rd_T79 l0 x3_1).f1))∧w'.cell? ⟨(ad387.add ((x3_1).toNat * 6)).block,(ad387.add ((x3_1).toNat * 6)).off+2,none⟩=some (.bool ((rd_T79 l0 x3_1).f2))∧w'.cell? ⟨(ad387.add ((x3_1).toNat * 6)).block,(ad387.add ((x3_1).toNat * 6)).off+3,none⟩=some (.slice A387_3 ((rd_T79 l0 x3_1).f3).length c387_3)∧w'.cell? ⟨(ad387.add ((x3_1).toNat * 6)).block,(ad387.add ((x3_1).toNat * 6)).off+4,none⟩=some (.bool ((rd_T79 l0 x3_1).f4))∧w'.cell? ⟨(ad387.add ((x3_1).toNat * 6)).block,(ad387.add ((x3_1).toNat * 6)).off+5,none⟩=some (.slice A387_5 ((rd_T79 l0 x3_1).f5).length c387_5)∧w'.cell? (ad387.add (((ji7)).toNat * 6))=some (.int .i64 ((rd_T79 l0 (ji7)).f0))∧w'.cell? ⟨(ad387.add (((ji7)).toNat * 6)).block,(ad387.add (((ji7)).toNat * 6)).off+1,none⟩=some (.int .i64 ((rd_T79 l0 (ji7)).f1))∧w'.cell? ⟨(ad387.add (((ji7)).toNat * 6)).block,(ad387.add (((ji7)).toNat * 6)).off+2,none⟩=some (.bool ((rd_T79 l0 (ji7)).f2))∧w'.cell? ⟨(ad387.add (((ji7)).toNat * 6)).block,(ad387.add (((ji7)).toNat * 6)).off+3,none⟩=some (.slice A389_3 ((rd_T79 l0 (ji7)).f3).length c389_3)∧w'.cell? ⟨(ad387.add (((ji7)).toNat * 6)).block,(ad387.add (((ji7)).toNat * 6)).off+4,none⟩=some (.bool ((rd_T79 l0 (ji7)).f4))∧w'.cell? ⟨(ad387.add (((ji7)).toNat * 6)).block,(ad387.add (((ji7)).toNat * 6)).off+5,none⟩=some (.slice A389_5 ((rd_T79 l0 (ji7)).f5).length c389_5)∧w'.cell? (ad387.add ((x3_1).toNat * 6))=some (.int .i64 ((rd_T79 l0 x3_1).f0))∧w'.cell? ⟨(ad387.add ((x3_1).toNat * 6)).block,(ad387.add ((x3_1).toNat * 6)).off+1,none⟩=some (.int .i64 ((rd_T79 l0 x3_1).f1))∧w'.cell? ⟨(ad387.add ((x3_1).toNat * 6)).block,(ad387.add ((x3_1).toNat * 6)).off+2,none⟩=some (.bool ((rd_T79 l0 x3_1).f2))∧w'.cell? ⟨(ad387.add ((x3_1).toNat * 6)).block,(ad387.add ((x3_1).toNat * 6)).off+3,none⟩=some (.slice A390_3 ((rd_T79 l0 x3_1).f3).length c390_3)∧w'.cell? ⟨(ad387.add ((x3_1).toNat * 6)).block,(ad387.add ((x3_1).toNat * 6)).off+4,none⟩=some (.bool ((rd_T79 l0 x3_1).f4))∧w'.cell? ⟨(ad387.add ((x3_1).toNat * 6)).block,(ad387.add ((x3_1).toNat * 6)).off+5,none⟩=some (.slice A390_5 ((rd_T79 l0 x3_1).f5).length c390_5)) (ds:=[]) #[false,false,false,false,false,false,false,false,false,false,false,false,false,false,false,false,false,false,false,false,false,false,false,false] (by kernel_rfl) rfl rfl ⟨((HB.out.cell (World.block_lt_of_cell? w _ hw387_0)).trans hw387_0),((HB.out.cell (World.block_lt_of_cell? w _ hw387_1)).trans hw387_1),((HB.out.cell (World.block_lt_of_cell? w _ hw387_2)).trans hw387_2),((HB.out.cell (World.block_lt_of_cell? w _ hw387_3)).trans hw387_3),((HB.out.cell (World.block_lt_of_cell? w _ hw387_4)).trans hw387_4),((HB.out.cell (World.block_lt_of_cell? w _ hw387_5)).trans hw387_5),((HB.out.cell (World.block_lt_of_cell? w _ hw389_0)).trans hw389_0),((HB.out.cell (World.block_lt_of_cell? w _ hw389_1)).trans hw389_1),((HB.out.cell (World.block_lt_of_cell? w _ hw389_2)).trans hw389_2),((HB.out.cell (World.block_lt_of_cell? w _ hw389_3)).trans hw389_3),((HB.out.cell (World.block_lt_of_cell? w _ hw389_4)).trans hw389_4),((HB.out.cell (World.block_lt_of_cell? w _ hw389_5)).trans hw389_5),((HB.out.cell (World.block_lt_of_cell? w _ hw390_0)).trans hw390_0),((HB.out.cell (World.block_lt_of_cell? w _ hw390_1)).trans hw390_1),((HB.out.cell (World.block_lt_of_cell? w _ hw390_2)).trans hw390_2),((HB.out.cell (World.block_lt_of_cell? w _ hw390_3)).trans hw390_3),((HB.out.cell (World.block_lt_of_cell? w _ hw390_4)).trans hw390_4),((HB.out.cell (World.block_lt_of_cell? w _ hw390_5)).trans hw390_5)⟩ (fun hHeld=>?_);refine with_tabW spec_l5Records.tab4 spec_l5Records.bits4 (fun HT_ HW_=>?_)
          generalize wr.drew=w11 at HB HR387_3 HR387_5 HR389_3 HR389_5 HR390_3 HR390_5 hx387_0 hx387_1 hx387_2 hx387_3 hx387_4 hx387_5 hx389_0 hx389_1 hx389_2 hx389_3 hx389_4 hx389_5 hx390_0 hx390_1 hx390_2 hx390_3 hx390_4 hx390_5 hHeld ⊢
          refine pure_ (i:=0) (N:=some 10) (v:=?_) (a':=?_) #[true,false,false,false,false,false,false,false,false,false,false,false,false,false,false,false,false,false,false,false,false,false,false,false] rfl rfl (any_of HT_.out (by kernel_rfl)) (fun _ _ _ h=>h) (Or.inl ⟨by rfl,?_⟩) ?_ ?_
          rotate_left
          ·intro w'
           go_simp
           with_reducible rfl
          rotate_left
          ·simp only [Act.put,setIfInBounds_toArray,set_cons_zero,set_cons_succ,i64_w,i32_w]
           rfl
          refine pure_ (i:=1) (N:=some 11) (v:=?_) (a':=?_) #[true,true,false,false,false,false,false,false,false,false,false,false,false,false,false,false,false,false,false,false,false,false,false,false] rfl rfl (any_of HT_.out (by kernel_rfl)) (fun _ _ _ h=>h) (Or.inl ⟨by rfl,?_⟩) ?_ ?_
          rotate_left
          ·intro w'
           go_simp
           with_reducible rfl
          rotate_left
          ·simp only [Act.put,setIfInBounds_toArray,set_cons_zero,set_cons_succ,i64_w,i32_w]
           rfl
          refine pure_ (i:=2) (N:=some 12) (v:=?_) (a':=?_) #[true,true,true,false,false,false,false,false,false,false,false,false,false,false,false,false,false,false,false,false,false,false,false,false] rfl rfl (any_of HT_.out (by kernel_rfl)) (fun _ _ _ h=>h) (Or.inl ⟨by rfl,?_⟩) ?_ ?_
          rotate_left
          ·intro w'
           go_simp
           with_reducible rfl
          rotate_left
          ·simp only [Act.put,setIfInBounds_toArray,set_cons_zero,set_cons_succ,i64_w,i32_w]
           rfl
          refine take_ (i:=3) (N:=some 13) (v:=?_) (a':=?_) #[true,true,true,true,false,false,false,false,false,false,false,false,false,false,false,false,false,false,false,false,false,false,false,false] rfl rfl (take_ofW HT_.out HW_.out (by kernel_rfl)) (fun _ _ _ h=>h) (Or.inl ⟨by rfl,?_⟩) hHeld ?_ ?_
          rotate_left
          ·rintro w' ⟨s0,s1,s2,s3,s4,s5,s6,s7,s8,s9,s10,s11,s12,s13,s14,s15,s16,s17⟩
           go_simp
           with_reducible rfl
          rotate_left
          ·simp only [Act.put,setIfInBounds_toArray,set_cons_zero,set_cons_succ,i64_w,i32_w]
           rfl
          refine one_ (i:=4) (N:=some 14) #[true,true,true,true,true,false,false,false,false,false,false,false,false,false,false,false,false,false,false,false,false,false,false,false] rfl rfl (one_of HT_.out (by kernel_rfl)) (by decide) (fun K hK=>?_)
          refine goes_ Try.func78 (by kernel_rfl) rfl #[.agg #[.int .i64 ((rd_T79 l0 x3_1).f0),.int .i64 ((rd_T79 l0 x3_1).f1),.bool ((rd_T79 l0 x3_1).f2),.slice A387_3 ((rd_T79 l0 x3_1).f3).length c387_3,.bool ((rd_T79 l0 x3_1).f4),.slice A387_5 ((rd_T79 l0 x3_1).f5).length c387_5]] (by rfl) rfl rfl (by (try simp only [map_toArray,map_cons,map_nil]);first|done|rfl|(simp only [length_drop,length_take];rfl)) ?_
          with_reducible refine (spec_RecordValid.calls k1 ((rd_T79 l0 x3_1).f0) ((rd_T79 l0 x3_1).f1) ((rd_T79 l0 x3_1).f2) _ _ ((rd_T79 l0 x3_1).f3) ((rd_T79 l0 x3_1).f4) _ _ ((rd_T79 l0 x3_1).f5) true _ ?side1 ?side2 ?side3 ?side4 A4.out).mono ?_
          (case side1=>repeat (first|exact (Kd.C_below HR387_3.out HB.out)|(with_reducible refine Kd.C_alloc ?_ _)|(with_reducible refine Kd.C_drewN ?_ _)|(with_reducible refine Kd.C_drew ?_)))
          (case side2=>exact HC387_3.out)
          (case side3=>repeat (first|exact (Kd.C_below HR387_5.out HB.out)|(with_reducible refine Kd.C_alloc ?_ _)|(with_reducible refine Kd.C_drewN ?_ _)|(with_reducible refine Kd.C_drew ?_)))
          (case side4=>exact HC387_5.out)
          rintro e w12 ⟨rfl,hb⟩
          refine ⟨_,rfl,?_⟩
          have n0_:=Aside0.mk (below_step (by repeat (first|(with_reducible first|exact HB.out|apply below_alloc|apply pw_below_drewN|apply below_drew1)|exact HB.out)) hb)
          clear HB
          have HB:=n0_
          clear n0_
          (try clear hb)
          (try clear hb2)
          (try clear hk)
          (try clear hi)
          refine hK.out _ _ ⟨((HB.out.cell (World.block_lt_of_cell? w _ hw387_0)).trans hw387_0),((HB.out.cell (World.block_lt_of_cell? w _ hw387_1)).trans hw387_1),((HB.out.cell (World.block_lt_of_cell? w _ hw387_2)).trans hw387_2),((HB.out.cell (World.block_lt_of_cell? w _ hw387_3)).trans hw387_3),((HB.out.cell (World.block_lt_of_cell? w _ hw387_4)).trans hw387_4),((HB.out.cell (World.block_lt_of_cell? w _ hw387_5)).trans hw387_5),((HB.out.cell (World.block_lt_of_cell? w _ hw389_0)).trans hw389_0),((HB.out.cell (World.block_lt_of_cell? w _ hw389_1)).trans hw389_1),((HB.out.cell (World.block_lt_of_cell? w _ hw389_2)).trans hw389_2),((HB.out.cell (World.block_lt_of_cell? w _ hw389_3)).trans hw389_3),((HB.out.cell (World.block_lt_of_cell? w _ hw389_4)).trans hw389_4),((HB.out.cell (World.block_lt_of_cell? w _ hw389_5)).trans hw389_5),((HB.out.cell (World.block_lt_of_cell? w _ hw390_0)).trans hw390_0),((HB.out.cell (World.block_lt_of_cell? w _ hw390_1)).trans hw390_1),((HB.out.cell (World.block_lt_of_cell? w _ hw390_2)).trans hw390_2),((HB.out.cell (World.block_lt_of_cell? w _ hw390_3)).trans hw390_3),((HB.out.cell (World.block_lt_of_cell? w _ hw390_4)).trans hw390_4),((HB.out.cell (World.block_lt_of_cell? w _ hw390_5)).trans hw390_5)⟩ (fun hHeld=>?_)
          clear hK K
          refine norm_ (a':=?_) ?_ ?_
          rotate_left
          ·show Act.put _ (some 14) _ = _
           simp only [Act.put,setIfInBounds_toArray,set_cons_zero,set_cons_succ,i64_w,i32_w]
           rfl
          refine pure_ (i:=5) (N:=some 15) (v:=?_) (a':=?_) #[true,true,true,true,true,true,false,false,false,false,false,false,false,false,false,false,false,false,false,false,false,false,false,false] rfl rfl (any_of HT_.out (by kernel_rfl)) (fun _ _ _ h=>h) (Or.inl ⟨by rfl,?_⟩) ?_ ?_
          rotate_left
          ·intro w'
           go_simp
           with_reducible rfl
          rotate_left
          ·simp only [Act.put,setIfInBounds_toArray,set_cons_zero,set_cons_succ,i64_w,i32_w]
           rfl
          refine pure_ (i:=6) (N:=some 16) (v:=?_) (a':=?_) #[true,true,true,true,true,true,true,false,false,false,false,false,false,false,false,false,false,false,false,false,false,false,false,false] rfl rfl (any_of HT_.out (by kernel_rfl)) (fun _ _ _ h=>h) (Or.inl ⟨by rfl,?_⟩) ?_ ?_
          rotate_left
          ·intro w'
           go_simp
           with_reducible rfl
          rotate_left
          ·simp only [Act.put,setIfInBounds_toArray,set_cons_zero,set_cons_succ,i64_w,i32_w]
           rfl
          refine pure_ (i:=7) (N:=some 17) (v:=?_) (a':=?_) #[true,true,true,true,true,true,true,true,false,false,false,false,false,false,false,false,false,false,false,false,false,false,false,false] rfl rfl (any_of HT_.out (by kernel_rfl)) (fun _ _ _ h=>h) (Or.inl ⟨by rfl,?_⟩) ?_ ?_
          rotate_left
          ·intro w'
           go_simp
           with_reducible rfl
          rotate_left
          ·simp only [Act.put,setIfInBounds_toArray,set_cons_zero,set_cons_succ,i64_w,i32_w]
           rfl
          refine pure_ (i:=8) (N:=some 18) (v:=?_) (a':=?_) #[true,true,true,true,true,true,true,true,true,false,false,false,false,false,false,false,false,false,false,false,false,false,false,false] rfl rfl (any_of HT_.out (by kernel_rfl)) (fun _ _ _ h=>h) (Or.inl ⟨by rfl,?_⟩) ?_ ?_
          rotate_left
          ·intro w'
           go_simp
           with_reducible rfl
          rotate_left
          ·simp only [Act.put,setIfInBounds_toArray,set_cons_zero,set_cons_succ,i64_w,i32_w]
           rfl
          refine pure_ (i:=9) (N:=some 19) (v:=?_) (a':=?_) #[true,true,true,true,true,true,true,true,true,true,false,false,false,false,false,false,false,false,false,false,false,false,false,false] rfl rfl (any_of HT_.out (by kernel_rfl)) (fun _ _ _ h=>h) (Or.inl ⟨by rfl,?_⟩) ?_ ?_
          rotate_left
          ·intro w'
           go_simp
           with_reducible rfl
          rotate_left
          ·simp only [Act.put,setIfInBounds_toArray,set_cons_zero,set_cons_succ,i64_w,i32_w]
           rfl
          refine pure_ (i:=10) (N:=some 20) (v:=?_) (a':=?_) #[true,true,true,true,true,true,true,true,true,true,true,false,false,false,false,false,false,false,false,false,false,false,false,false] rfl rfl (any_of HT_.out (by kernel_rfl)) (fun _ _ _ h=>h) (Or.inl ⟨by rfl,?_⟩) ?_ ?_
          rotate_left
          ·intro w'
           go_simp
           with_reducible rfl
          rotate_left
          ·simp only [Act.put,setIfInBounds_toArray,set_cons_zero,set_cons_succ,i64_w,i32_w]
           rfl
          refine pure_ (i:=11) (N:=some 21) (v:=?_) (a':=?_) #[true,true,true,true,true,true,true,true,true,true,true,true,false,false,false,false,false,false,false,false,false,false,false,false] rfl rfl (any_of HT_.out (by kernel_rfl)) (fun _ _ _ h=>h) (Or.inl ⟨by rfl,?_⟩) ?_ ?_
          rotate_left
          ·intro w'
           go_simp
           with_reducible rfl
          rotate_left
          ·simp only [Act.put,setIfInBounds_toArray,set_cons_zero,set_cons_succ,i64_w,i32_w]
           rfl
          refine pure_ (i:=12) (N:=some 22) (v:=?_) (a':=?_) #[true,true,true,true,true,true,true,true,true,true,true,true,true,false,false,false,false,false,false,false,false,false,false,false] rfl rfl (any_of HT_.out (by kernel_rfl)) (fun _ _ _ h=>h) (Or.inl ⟨by rfl,?_⟩) ?_ ?_
          rotate_left
          ·intro w'
           go_simp
           with_reducible rfl
          rotate_left
          ·simp only [Act.put,setIfInBounds_toArray,set_cons_zero,set_cons_succ,i64_w,i32_w]
           rfl
          refine pure_ (i:=13) (N:=some 23) (v:=?_) (a':=?_) #[true,true,true,true,true,true,true,true,true,true,true,true,true,true,false,false,false,false,false,false,false,false,false,false] rfl rfl (any_of HT_.out (by kernel_rfl)) (fun _ _ _ h=>h) (Or.inl ⟨by rfl,?_⟩) ?_ ?_
          rotate_left
          ·intro w'
           go_simp
           with_reducible rfl
          rotate_left
          ·simp only [Act.put,setIfInBounds_toArray,set_cons_zero,set_cons_succ,i64_w,i32_w]
           rfl
          refine pure_ (i:=14) (N:=some 24) (v:=?_) (a':=?_) #[true,true,true,true,true,true,true,true,true,true,true,true,true,true,true,false,false,false,false,false,false,false,false,false] rfl rfl (any_of HT_.out (by kernel_rfl)) (fun _ _ _ h=>h) (Or.inl ⟨by rfl,?_⟩) ?_ ?_
          rotate_left
          ·intro w'
           go_simp
           with_reducible rfl
          rotate_left
          ·simp only [Act.put,setIfInBounds_toArray,set_cons_zero,set_cons_succ,i64_w,i32_w]
           rfl
          refine pure_ (i:=16) (N:=some 26) (v:=?_) (a':=?_) #[true,true,true,true,true,true,true,true,true,true,true,true,true,true,true,false,true,false,false,false,false,false,false,false] rfl rfl (any_of HT_.out (by kernel_rfl)) (fun _ _ _ h=>h) (Or.inl ⟨by rfl,?_⟩) ?_ ?_
          rotate_left
          ·intro w'
           go_simp
           with_reducible rfl
          rotate_left
          ·simp only [Act.put,setIfInBounds_toArray,set_cons_zero,set_cons_succ,i64_w,i32_w]
           rfl
          refine pure_ (i:=17) (N:=some 27) (v:=?_) (a':=?_) #[true,true,true,true,true,true,true,true,true,true,true,true,true,true,true,false,true,true,false,false,false,false,false,false] rfl rfl (any_of HT_.out (by kernel_rfl)) (fun _ _ _ h=>h) (Or.inl ⟨by rfl,?_⟩) ?_ ?_
          rotate_left
          ·intro w'
           go_simp
           with_reducible rfl
          rotate_left
          ·simp only [Act.put,setIfInBounds_toArray,set_cons_zero,set_cons_succ,i64_w,i32_w]
           rfl
          refine pure_ (i:=18) (N:=some 28) (v:=?_) (a':=?_) #[true,true,true,true,true,true,true,true,true,true,true,true,true,true,true,false,true,true,true,false,false,false,false,false] rfl rfl (any_of HT_.out (by kernel_rfl)) (fun _ _ _ h=>h) (Or.inl ⟨by rfl,?_⟩) ?_ ?_
          rotate_left
          ·intro w'
           go_simp
           with_reducible rfl
          rotate_left
          ·simp only [Act.put,setIfInBounds_toArray,set_cons_zero,set_cons_succ,i64_w,i32_w]
           rfl
          refine pure_ (i:=19) (N:=some 29) (v:=?_) (a':=?_) #[true,true,true,true,true,true,true,true,true,true,true,true,true,true,true,false,true,true,true,true,false,false,false,false] rfl rfl (any_of HT_.out (by kernel_rfl)) (fun _ _ _ h=>h) (Or.inl ⟨by rfl,?_⟩) ?_ ?_
          rotate_left
          ·intro w'
           go_simp
           with_reducible rfl
          rotate_left
          ·simp only [Act.put,setIfInBounds_toArray,set_cons_zero,set_cons_succ,i64_w,i32_w]
           rfl
          refine take_ (i:=15) (N:=some 25) (v:=?_) (a':=?_) #[true,true,true,true,true,true,true,true,true,true,true,true,true,true,true,true,true,true,true,true,false,false,false,false] rfl rfl (take_ofW HT_.out HW_.out (by kernel_rfl)) (fun _ _ _ h=>h) (Or.inl ⟨by rfl,?_⟩) hHeld ?_ ?_
          rotate_left
          ·rintro w' ⟨s0,s1,s2,s3,s4,s5,s6,s7,s8,s9,s10,s11,s12,s13,s14,s15,s16,s17⟩
           go_simp
           with_reducible rfl
          rotate_left
          ·simp only [Act.put,setIfInBounds_toArray,set_cons_zero,set_cons_succ,i64_w,i32_w]
           rfl
          refine take_ (i:=20) (N:=some 30) (v:=?_) (a':=?_) #[true,true,true,true,true,true,true,true,true,true,true,true,true,true,true,true,true,true,true,true,true,false,false,false] rfl rfl (take_ofW HT_.out HW_.out (by kernel_rfl)) (fun _ _ _ h=>h) (Or.inl ⟨by rfl,?_⟩) hHeld ?_ ?_
          rotate_left
          ·rintro w' ⟨s0,s1,s2,s3,s4,s5,s6,s7,s8,s9,s10,s11,s12,s13,s14,s15,s16,s17⟩
           go_simp
           with_reducible rfl
          rotate_left
          ·simp only [Act.put,setIfInBounds_toArray,set_cons_zero,set_cons_succ,i64_w,i32_w]
           rfl
          refine pure_ (i:=21) (N:=some 31) (v:=?_) (a':=?_) #[true,true,true,true,true,true,true,true,true,true,true,true,true,true,true,true,true,true,true,true,true,true,false,false] rfl rfl (any_of HT_.out (by kernel_rfl)) (fun _ _ _ h=>h) (Or.inl ⟨by rfl,?_⟩) ?_ ?_
          rotate_left
          ·intro w'
           go_simp
           with_reducible rfl
          rotate_left
          ·simp only [Act.put,setIfInBounds_toArray,set_cons_zero,set_cons_succ,i64_w,i32_w]
           rfl
          refine pure_ (i:=22) (N:=some 32) (v:=?_) (a':=?_) #[true,true,true,true,true,true,true,true,true,true,true,true,true,true,true,true,true,true,true,true,true,true,true,false] rfl rfl (any_of HT_.out (by kernel_rfl)) (fun _ _ _ h=>h) (Or.inl ⟨by rfl,?_⟩) ?_ ?_
          rotate_left
          ·intro w'
           go_simp
           with_reducible rfl
          rotate_left
          ·simp only [Act.put,setIfInBounds_toArray,set_cons_zero,set_cons_succ,i64_w,i32_w]
           rfl
          refine pure_ (i:=23) (N:=some 33) (v:=?_) (a':=?_) #[true,true,true,true,true,true,true,true,true,true,true,true,true,true,true,true,true,true,true,true,true,true,true,true] rfl rfl (any_of HT_.out (by kernel_rfl)) (fun _ _ _ h=>h) (Or.inl ⟨by rfl,?_⟩) ?_ ?_
          rotate_left
          ·intro w'
           go_simp
           with_reducible rfl
          rotate_left
          ·simp only [Act.put,setIfInBounds_toArray,set_cons_zero,set_cons_succ,i64_w,i32_w]
           rfl
          refine done_ (done_of HT_.out (by kernel_rfl)) ?_
          try go_wp2
          go_ret
          exact ⟨by first|rfl|(simp [errW_none,errW_some] <;> rfl)|(simp only [← hji7];first|rfl|(simp [errW_none,errW_some] <;> rfl))|(simp [*,errW_none,errW_some] <;> rfl),by repeat (first|(with_reducible first|exact HB.out|apply below_alloc|apply pw_below_drewN|apply below_drew1)|exact HB.out)⟩
         ·rw [if_neg c10] at H
          have c10b0:decide (((rd_T79 l0 x3_1).f0) ≤ ((rd_T79 l0 (ji7)).f0))=false:=decide_eq_false c10
          clear c10
          have H':=Aside0.mk H
          clear H
          try go_wp2
          have n0_:=Aside0.mk (below_drew1 HB.out)
          clear HB
          have HB:=n0_
          clear n0_
          have p387 : 0 ≤ (x3_1:Int):=of_decide_eq_true (by first|(with_reducible assumption)|assumption)
          have q387:x3_1 < (l0.length:Int):=of_decide_eq_true (by first|(with_reducible assumption)|assumption)
          obtain ⟨ad387,A387_3,c387_3,A387_5,c387_5,e387,hx387_0,hx387_1,hx387_2,hx387_3,hx387_4,hx387_5,hl387_3,hi387_3,hl387_5,hi387_5⟩:=at_T79 HR0.out x3_1 p387 q387
          have hw387_5:=hx387_5
          have hw387_4:=hx387_4
          have hw387_3:=hx387_3
          have hw387_2:=hx387_2
          have hw387_1:=hx387_1
          have hw387_0:=hx387_0
          cases e387
          replace hx387_0:=(HB.out.cell (World.block_lt_of_cell? w _ hx387_0)).trans hx387_0
          replace hx387_1:=(HB.out.cell (World.block_lt_of_cell? w _ hx387_1)).trans hx387_1
          replace hx387_2:=(HB.out.cell (World.block_lt_of_cell? w _ hx387_2)).trans hx387_2
          replace hx387_3:=(HB.out.cell (World.block_lt_of_cell? w _ hx387_3)).trans hx387_3
          replace hx387_4:=(HB.out.cell (World.block_lt_of_cell? w _ hx387_4)).trans hx387_4
          replace hx387_5:=(HB.out.cell (World.block_lt_of_cell? w _ hx387_5)).trans hx387_5
          have HR387_3:=Aside0.mk hi387_3
          have HC387_3:=Aside0.mk hl387_3
          clear hi387_3 hl387_3
          have HR387_5:=Aside0.mk hi387_5
          have HC387_5:=Aside0.mk hl387_5
          clear hi387_5 hl387_5
          replace p387:=eq_true p387
          replace q387:=eq_true q387
          have p389 : 0 ≤ ((ji7):Int):=of_decide_eq_true (by first|(with_reducible assumption)|assumption)
          have q389:(ji7) < (l0.length:Int):=of_decide_eq_true (by first|(with_reducible assumption)|assumption)
          obtain ⟨ad389,A389_3,c389_3,A389_5,c389_5,e389,hx389_0,hx389_1,hx389_2,hx389_3,hx389_4,hx389_5,hl389_3,hi389_3,hl389_5,hi389_5⟩:=at_T79 HR0.out (ji7) p389 q389
          have hw389_5:=hx389_5
          have hw389_4:=hx389_4
          have hw389_3:=hx389_3
          have hw389_2:=hx389_2
          have hw389_1:=hx389_1
          have hw389_0:=hx389_0
          obtain rfl:ad387=ad389:=(by injection e389)
          replace hx389_0:=(HB.out.cell (World.block_lt_of_cell? w _ hx389_0)).trans hx389_0
          replace hx389_1:=(HB.out.cell (World.block_lt_of_cell? w _ hx389_1)).trans hx389_1
          replace hx389_2:=(HB.out.cell (World.block_lt_of_cell? w _ hx389_2)).trans hx389_2
          replace hx389_3:=(HB.out.cell (World.block_lt_of_cell? w _ hx389_3)).trans hx389_3
          replace hx389_4:=(HB.out.cell (World.block_lt_of_cell? w _ hx389_4)).trans hx389_4
          replace hx389_5:=(HB.out.cell (World.block_lt_of_cell? w _ hx389_5)).trans hx389_5
          have HR389_3:=Aside0.mk hi389_3
          have HC389_3:=Aside0.mk hl389_3
          clear hi389_3 hl389_3
          have HR389_5:=Aside0.mk hi389_5
          have HC389_5:=Aside0.mk hl389_5
          clear hi389_5 hl389_5
          replace p389:=eq_true p389
          replace q389:=eq_true q389
          have p390 : 0 ≤ (x3_1:Int):=of_decide_eq_true (by first|(with_reducible assumption)|assumption)
          have q390:x3_1 < (l0.length:Int):=of_decide_eq_true (by first|(with_reducible assumption)|assumption)
          obtain ⟨ad390,A390_3,c390_3,A390_5,c390_5,e390,hx390_0,hx390_1,hx390_2,hx390_3,hx390_4,hx390_5,hl390_3,hi390_3,hl390_5,hi390_5⟩:=at_T79 HR0.out x3_1 p390 q390
          have hw390_5:=hx390_5
          have hw390_4:=hx390_4
          have hw390_3:=hx390_3
          have hw390_2:=hx390_2
          have hw390_1:=hx390_1
          have hw390_0:=hx390_0
          obtain rfl:ad387=ad390:=(by injection e390)
          replace hx390_0:=(HB.out.cell (World.block_lt_of_cell? w _ hx390_0)).trans hx390_0
          replace hx390_1:=(HB.out.cell (World.block_lt_of_cell? w _ hx390_1)).trans hx390_1
          replace hx390_2:=(HB.out.cell (World.block_lt_of_cell? w _ hx390_2)).trans hx390_2
          replace hx390_3:=(HB.out.cell (World.block_lt_of_cell? w _ hx390_3)).trans hx390_3
          replace hx390_4:=(HB.out.cell (World.block_lt_of_cell? w _ hx390_4)).trans hx390_4
          replace hx390_5:=(HB.out.cell (World.block_lt_of_cell? w _ hx390_5)).trans hx390_5
          have HR390_3:=Aside0.mk hi390_3
          have HC390_3:=Aside0.mk hl390_3
          clear hi390_3 hl390_3
          have HR390_5:=Aside0.mk hi390_5
          have HC390_5:=Aside0.mk hl390_5
          clear hi390_5 hl390_5
          replace p390:=eq_true p390
          replace q390:=eq_true q390
          refine start_ (n:=24) (S:=fun w'=>w'.cell? (ad387.add ((x3_1).toNat * 6))=some (.int .i64 ((rd_T79 l0 x3_1).f0))∧w'.cell? ⟨(ad387.add ((x3_1).toNat * 6)).block,(ad387.add ((x3_1).toNat * 6)).off+1,none⟩=some (.int .i64 ((rd_T79 l0 x3_1).f1))∧w'.cell? ⟨(ad387.add ((x3_1).toNat * 6)).block,(ad387.add ((x3_1).toNat * 6)).off+2,none⟩=some (.bool ((rd_T79 l0 x3_1).f2))∧w'.cell? ⟨(ad387.add ((x3_1).toNat * 6)).block,(ad387.add ((x3_1).toNat * 6)).off+3,none⟩=some (.slice A387_3 ((rd_T79 l0 x3_1).f3).length c387_3)∧w'.cell? ⟨(ad387.add ((x3_1).toNat * 6)).block,(ad387.add ((x3_1).toNat * 6)).off+4,none⟩=some (.bool ((rd_T79 l0 x3_1).f4))∧w'.cell? ⟨(ad387.add ((x3_1).toNat * 6)).block,(ad387.add ((x3_1).toNat * 6)).off+5,none⟩=some (.slice A387_5 ((rd_T79 l0 x3_1).f5).length c387_5)∧w'.cell? (ad387.add (((ji7)).toNat * 6))=some (.int .i64 ((rd_T79 l0 (ji7)).f0))∧w'.cell? ⟨(ad387.add (((ji7)).toNat * 6)).block,(ad387.add (((ji7)).toNat * 6)).off+1,none⟩=some (.int .i64 ((rd_T79 l0 (ji7)).f1))∧w'.cell? ⟨(ad387.add (((ji7)).toNat * 6)).block,(ad387.add (((ji7)).toNat * 6)).off+2,none⟩=some (.bool ((rd_T79 l0 (ji7)).f2))∧w'.cell? ⟨(ad387.add (((ji7)).toNat * 6)).block,(ad387.add (((ji7)).toNat * 6)).off+3,none⟩=some (.slice A389_3 ((rd_T79 l0 (ji7)).f3).length c389_3)∧w'.cell? ⟨(ad387.add (((ji7)).toNat * 6)).block,(ad387.add (((ji7)).toNat * 6)).off+4,none⟩=some (.bool ((rd_T79 l0 (ji7)).f4))∧w'.cell? ⟨(ad387.add (((ji7)).toNat * 6)).block,(ad387.add (((ji7)).toNat * 6)).off+5,none⟩=some (.slice A389_5 ((rd_T79 l0 (ji7)).f5).length c389_5)∧w'.cell? (ad387.add ((x3_1).toNat * 6))=some (.int .i64 ((rd_T79 l0 x3_1).f0))∧w'.cell? ⟨(ad387.add ((x3_1).toNat * 6)).block,(ad387.add ((x3_1).toNat * 6)).off+1,none⟩=some (.int .i64 ((rd_T79 l0 x3_1).f1))∧w'.cell? ⟨(ad387.add ((x3_1).toNat * 6)).block,(ad387.add ((x3_1).toNat * 6)).off+2,none⟩=some (.bool ((rd_T79 l0 x3_1).f2))∧w'.cell? ⟨(ad387.add ((x3_1).toNat * 6)).block,(ad387.add ((x3_1).toNat * 6)).off+3,none⟩=some (.slice A390_3 ((rd_T79 l0 x3_1).f3).length c390_3)∧w'.cell? ⟨(ad387.add ((x3_1).toNat * 6)).block,(ad387.add ((x3_1).toNat * 6)).off+4,none⟩=some (.bool ((rd_T79 l0 x3_1).f4))∧w'.cell? ⟨(ad387.add ((x3_1).toNat * 6)).block,(ad387.add ((x3_1).toNat * 6)).off+5,none⟩=some (.slice A390_5 ((rd_T79 l0 x3_1).f5).length c390_5)) (ds:=[]) #[false,false,false,false,false,false,false,false,false,false,false,false,false,false,false,false,false,false,false,false,false,false,false,false] (by kernel_rfl) rfl rfl ⟨((HB.out.cell (World.block_lt_of_cell? w _ hw387_0)).trans hw387_0),((HB.out.cell (World.block_lt_of_cell? w _ hw387_1)).trans hw387_1),((HB.out.cell (World.block_lt_of_cell? w _ hw387_2)).trans hw387_2),((HB.out.cell (World.block_lt_of_cell? w _ hw387_3)).trans hw387_3),((HB.out.cell (World.block_lt_of_cell? w _ hw387_4)).trans hw387_4),((HB.out.cell (World.block_lt_of_cell? w _ hw387_5)).trans hw387_5),((HB.out.cell (World.block_lt_of_cell? w _ hw389_0)).trans hw389_0),((HB.out.cell (World.block_lt_of_cell? w _ hw389_1)).trans hw389_1),((HB.out.cell (World.block_lt_of_cell? w _ hw389_2)).trans hw389_2),((HB.out.cell (World.block_lt_of_cell? w _ hw389_3)).trans hw389_3),((HB.out.cell (World.block_lt_of_cell? w _ hw389_4)).trans hw389_4),((HB.out.cell (World.block_lt_of_cell? w _ hw389_5)).trans hw389_5),((HB.out.cell (World.block_lt_of_cell? w _ hw390_0)).trans hw390_0),((HB.out.cell (World.block_lt_of_cell? w _ hw390_1)).trans hw390_1),((HB.out.cell (World.block_lt_of_cell? w _ hw390_2)).trans hw390_2),((HB.out.cell (World.block_lt_of_cell? w _ hw390_3)).trans hw390_3),((HB.out.cell (World.block_lt_of_cell? w _ hw390_4)).trans hw390_4),((HB.out.cell (World.block_lt_of_cell? w _ hw390_5)).trans hw390_5)⟩ (fun hHeld=>?_);refine with_tabW spec_l5Records.tab4 spec_l5Records.bits4 (fun HT_ HW_=>?_)
          generalize wr.drew=w13 at HB HR387_3 HR387_5 HR389_3 HR389_5 HR390_3 HR390_5 hx387_0 hx387_1 hx387_2 hx387_3 hx387_4 hx387_5 hx389_0 hx389_1 hx389_2 hx389_3 hx389_4 hx389_5 hx390_0 hx390_1 hx390_2 hx390_3 hx390_4 hx390_5 hHeld ⊢
          refine pure_ (i:=0) (N:=some 10) (v:=?_) (a':=?_) #[true,false,false,false,false,false,false,false,false,false,false,false,false,false,false,false,false,false,false,false,false,false,false,false] rfl rfl (any_of HT_.out (by kernel_rfl)) (fun _ _ _ h=>h) (Or.inl ⟨by rfl,?_⟩) ?_ ?_
          rotate_left
          ·intro w'
           go_simp
           with_reducible rfl
          rotate_left
          ·simp only [Act.put,setIfInBounds_toArray,set_cons_zero,set_cons_succ,i64_w,i32_w]
           rfl
          refine pure_ (i:=1) (N:=some 11) (v:=?_) (a':=?_) #[true,true,false,false,false,false,false,false,false,false,false,false,false,false,false,false,false,false,false,false,false,false,false,false] rfl rfl (any_of HT_.out (by kernel_rfl)) (fun _ _ _ h=>h) (Or.inl ⟨by rfl,?_⟩) ?_ ?_
          rotate_left
          ·intro w'
           go_simp
           with_reducible rfl
          rotate_left
          ·simp only [Act.put,setIfInBounds_toArray,set_cons_zero,set_cons_succ,i64_w,i32_w]
           rfl
          refine pure_ (i:=2) (N:=some 12) (v:=?_) (a':=?_) #[true,true,true,false,false,false,false,false,false,false,false,false,false,false,false,false,false,false,false,false,false,false,false,false] rfl rfl (any_of HT_.out (by kernel_rfl)) (fun _ _ _ h=>h) (Or.inl ⟨by rfl,?_⟩) ?_ ?_
          rotate_left
          ·intro w'
           go_simp
           with_reducible rfl
          rotate_left
          ·simp only [Act.put,setIfInBounds_toArray,set_cons_zero,set_cons_succ,i64_w,i32_w]
           rfl
          refine take_ (i:=3) (N:=some 13) (v:=?_) (a':=?_) #[true,true,true,true,false,false,false,false,false,false,false,false,false,false,false,false,false,false,false,false,false,false,false,false] rfl rfl (take_ofW HT_.out HW_.out (by kernel_rfl)) (fun _ _ _ h=>h) (Or.inl ⟨by rfl,?_⟩) hHeld ?_ ?_
          rotate_left
          ·rintro w' ⟨s0,s1,s2,s3,s4,s5,s6,s7,s8,s9,s10,s11,s12,s13,s14,s15,s16,s17⟩
           go_simp
           with_reducible rfl
          rotate_left
          ·simp only [Act.put,setIfInBounds_toArray,set_cons_zero,set_cons_succ,i64_w,i32_w]
           rfl
          refine one_ (i:=4) (N:=some 14) #[true,true,true,true,true,false,false,false,false,false,false,false,false,false,false,false,false,false,false,false,false,false,false,false] rfl rfl (one_of HT_.out (by kernel_rfl)) (by decide) (fun K hK=>?_)
          refine goes_ Try.func78 (by kernel_rfl) rfl #[.agg #[.int .i64 ((rd_T79 l0 x3_1).f0),.int .i64 ((rd_T79 l0 x3_1).f1),.bool ((rd_T79 l0 x3_1).f2),.slice A387_3 ((rd_T79 l0 x3_1).f3).length c387_3,.bool ((rd_T79 l0 x3_1).f4),.slice A387_5 ((rd_T79 l0 x3_1).f5).length c387_5]] (by rfl) rfl rfl (by (try simp only [map_toArray,map_cons,map_nil]);first|done|rfl|(simp only [length_drop,length_take];rfl)) ?_
          with_reducible refine (spec_RecordValid.calls k1 ((rd_T79 l0 x3_1).f0) ((rd_T79 l0 x3_1).f1) ((rd_T79 l0 x3_1).f2) _ _ ((rd_T79 l0 x3_1).f3) ((rd_T79 l0 x3_1).f4) _ _ ((rd_T79 l0 x3_1).f5) true _ ?side1 ?side2 ?side3 ?side4 A4.out).mono ?_
          (case side1=>repeat (first|exact (Kd.C_below HR387_3.out HB.out)|(with_reducible refine Kd.C_alloc ?_ _)|(with_reducible refine Kd.C_drewN ?_ _)|(with_reducible refine Kd.C_drew ?_)))
          (case side2=>exact HC387_3.out)
          (case side3=>repeat (first|exact (Kd.C_below HR387_5.out HB.out)|(with_reducible refine Kd.C_alloc ?_ _)|(with_reducible refine Kd.C_drewN ?_ _)|(with_reducible refine Kd.C_drew ?_)))
          (case side4=>exact HC387_5.out)
          rintro e w14 ⟨rfl,hb⟩
          refine ⟨_,rfl,?_⟩
          have n0_:=Aside0.mk (below_step (by repeat (first|(with_reducible first|exact HB.out|apply below_alloc|apply pw_below_drewN|apply below_drew1)|exact HB.out)) hb)
          clear HB
          have HB:=n0_
          clear n0_
          (try clear hb)
          (try clear hb2)
          (try clear hk)
          (try clear hi)
          refine hK.out _ _ ⟨((HB.out.cell (World.block_lt_of_cell? w _ hw387_0)).trans hw387_0),((HB.out.cell (World.block_lt_of_cell? w _ hw387_1)).trans hw387_1),((HB.out.cell (World.block_lt_of_cell? w _ hw387_2)).trans hw387_2),((HB.out.cell (World.block_lt_of_cell? w _ hw387_3)).trans hw387_3),((HB.out.cell (World.block_lt_of_cell? w _ hw387_4)).trans hw387_4),((HB.out.cell (World.block_lt_of_cell? w _ hw387_5)).trans hw387_5),((HB.out.cell (World.block_lt_of_cell? w _ hw389_0)).trans hw389_0),((HB.out.cell (World.block_lt_of_cell? w _ hw389_1)).trans hw389_1),((HB.out.cell (World.block_lt_of_cell? w _ hw389_2)).trans hw389_2),((HB.out.cell (World.block_lt_of_cell? w _ hw389_3)).trans hw389_3),((HB.out.cell (World.block_lt_of_cell? w _ hw389_4)).trans hw389_4),((HB.out.cell (World.block_lt_of_cell? w _ hw389_5)).trans hw389_5),((HB.out.cell (World.block_lt_of_cell? w _ hw390_0)).trans hw390_0),((HB.out.cell (World.block_lt_of_cell? w _ hw390_1)).trans hw390_1),((HB.out.cell (World.block_lt_of_cell? w _ hw390_2)).trans hw390_2),((HB.out.cell (World.block_lt_of_cell? w _ hw390_3)).trans hw390_3),((HB.out.cell (World.block_lt_of_cell? w _ hw390_4)).trans hw390_4),((HB.out.cell (World.block_lt_of_cell? w _ hw390_5)).trans hw390_5)⟩ (fun hHeld=>?_)
          clear hK K
          refine norm_ (a':=?_) ?_ ?_
          rotate_left
          ·show Act.put _ (some 14) _ = _
           simp only [Act.put,setIfInBounds_toArray,set_cons_zero,set_cons_succ,i64_w,i32_w]
           rfl
          refine pure_ (i:=5) (N:=some 15) (v:=?_) (a':=?_) #[true,true,true,true,true,true,false,false,false,false,false,false,false,false,false,false,false,false,false,false,false,false,false,false] rfl rfl (any_of HT_.out (by kernel_rfl)) (fun _ _ _ h=>h) (Or.inl ⟨by rfl,?_⟩) ?_ ?_
          rotate_left
          ·intro w'
           go_simp
           with_reducible rfl
          rotate_left
          ·simp only [Act.put,setIfInBounds_toArray,set_cons_zero,set_cons_succ,i64_w,i32_w]
           rfl
          refine pure_ (i:=6) (N:=some 16) (v:=?_) (a':=?_) #[true,true,true,true,true,true,true,false,false,false,false,false,false,false,false,false,false,false,false,false,false,false,false,false] rfl rfl (any_of HT_.out (by kernel_rfl)) (fun _ _ _ h=>h) (Or.inl ⟨by rfl,?_⟩) ?_ ?_
          rotate_left
          ·intro w'
           go_simp
           with_reducible rfl
          rotate_left
          ·simp only [Act.put,setIfInBounds_toArray,set_cons_zero,set_cons_succ,i64_w,i32_w]
           rfl
          refine pure_ (i:=7) (N:=some 17) (v:=?_) (a':=?_) #[true,true,true,true,true,true,true,true,false,false,false,false,false,false,false,false,false,false,false,false,false,false,false,false] rfl rfl (any_of HT_.out (by kernel_rfl)) (fun _ _ _ h=>h) (Or.inl ⟨by rfl,?_⟩) ?_ ?_
          rotate_left
          ·intro w'
           go_simp
           with_reducible rfl
          rotate_left
          ·simp only [Act.put,setIfInBounds_toArray,set_cons_zero,set_cons_succ,i64_w,i32_w]
           rfl
          refine pure_ (i:=8) (N:=some 18) (v:=?_) (a':=?_) #[true,true,true,true,true,true,true,true,true,false,false,false,false,false,false,false,false,false,false,false,false,false,false,false] rfl rfl (any_of HT_.out (by kernel_rfl)) (fun _ _ _ h=>h) (Or.inl ⟨by rfl,?_⟩) ?_ ?_
          rotate_left
          ·intro w'
           go_simp
           with_reducible rfl
          rotate_left
          ·simp only [Act.put,setIfInBounds_toArray,set_cons_zero,set_cons_succ,i64_w,i32_w]
           rfl
          refine pure_ (i:=9) (N:=some 19) (v:=?_) (a':=?_) #[true,true,true,true,true,true,true,true,true,true,false,false,false,false,false,false,false,false,false,false,false,false,false,false] rfl rfl (any_of HT_.out (by kernel_rfl)) (fun _ _ _ h=>h) (Or.inl ⟨by rfl,?_⟩) ?_ ?_
          rotate_left
          ·intro w'
           go_simp
           with_reducible rfl
          rotate_left
          ·simp only [Act.put,setIfInBounds_toArray,set_cons_zero,set_cons_succ,i64_w,i32_w]
           rfl
          refine pure_ (i:=10) (N:=some 20) (v:=?_) (a':=?_) #[true,true,true,true,true,true,true,true,true,true,true,false,false,false,false,false,false,false,false,false,false,false,false,false] rfl rfl (any_of HT_.out (by kernel_rfl)) (fun _ _ _ h=>h) (Or.inl ⟨by rfl,?_⟩) ?_ ?_
          rotate_left
          ·intro w'
           go_simp
           with_reducible rfl
          rotate_left
          ·simp only [Act.put,setIfInBounds_toArray,set_cons_zero,set_cons_succ,i64_w,i32_w]
           rfl
          refine pure_ (i:=11) (N:=some 21) (v:=?_) (a':=?_) #[true,true,true,true,true,true,true,true,true,true,true,true,false,false,false,false,false,false,false,false,false,false,false,false] rfl rfl (any_of HT_.out (by kernel_rfl)) (fun _ _ _ h=>h) (Or.inl ⟨by rfl,?_⟩) ?_ ?_
          rotate_left
          ·intro w'
           go_simp
           with_reducible rfl
          rotate_left
          ·simp only [Act.put,setIfInBounds_toArray,set_cons_zero,set_cons_succ,i64_w,i32_w]
           rfl
          refine pure_ (i:=12) (N:=some 22) (v:=?_) (a':=?_) #[true,true,true,true,true,true,true,true,true,true,true,true,true,false,false,false,false,false,false,false,false,false,false,false] rfl rfl (any_of HT_.out (by kernel_rfl)) (fun _ _ _ h=>h) (Or.inl ⟨by rfl,?_⟩) ?_ ?_
          rotate_left
          ·intro w'
           go_simp
           with_reducible rfl
          rotate_left
          ·simp only [Act.put,setIfInBounds_toArray,set_cons_zero,set_cons_succ,i64_w,i32_w]
           rfl
          refine pure_ (i:=13) (N:=some 23) (v:=?_) (a':=?_) #[true,true,true,true,true,true,true,true,true,true,true,true,true,true,false,false,false,false,false,false,false,false,false,false] rfl rfl (any_of HT_.out (by kernel_rfl)) (fun _ _ _ h=>h) (Or.inl ⟨by rfl,?_⟩) ?_ ?_
          rotate_left
          ·intro w'
           go_simp
           with_reducible rfl
          rotate_left
          ·simp only [Act.put,setIfInBounds_toArray,set_cons_zero,set_cons_succ,i64_w,i32_w]
           rfl
          refine pure_ (i:=14) (N:=some 24) (v:=?_) (a':=?_) #[true,true,true,true,true,true,true,true,true,true,true,true,true,true,true,false,false,false,false,false,false,false,false,false] rfl rfl (any_of HT_.out (by kernel_rfl)) (fun _ _ _ h=>h) (Or.inl ⟨by rfl,?_⟩) ?_ ?_
          rotate_left
          ·intro w'
           go_simp
           with_reducible rfl
          rotate_left
          ·simp only [Act.put,setIfInBounds_toArray,set_cons_zero,set_cons_succ,i64_w,i32_w]
           rfl
          refine pure_ (i:=16) (N:=some 26) (v:=?_) (a':=?_) #[true,true,true,true,true,true,true,true,true,true,true,true,true,true,true,false,true,false,false,false,false,false,false,false] rfl rfl (any_of HT_.out (by kernel_rfl)) (fun _ _ _ h=>h) (Or.inl ⟨by rfl,?_⟩) ?_ ?_
          rotate_left
          ·intro w'
           go_simp
           with_reducible rfl
          rotate_left
          ·simp only [Act.put,setIfInBounds_toArray,set_cons_zero,set_cons_succ,i64_w,i32_w]
           rfl
          refine pure_ (i:=17) (N:=some 27) (v:=?_) (a':=?_) #[true,true,true,true,true,true,true,true,true,true,true,true,true,true,true,false,true,true,false,false,false,false,false,false] rfl rfl (any_of HT_.out (by kernel_rfl)) (fun _ _ _ h=>h) (Or.inl ⟨by rfl,?_⟩) ?_ ?_
          rotate_left
          ·intro w'
           go_simp
           with_reducible rfl
          rotate_left
          ·simp only [Act.put,setIfInBounds_toArray,set_cons_zero,set_cons_succ,i64_w,i32_w]
           rfl
          refine pure_ (i:=18) (N:=some 28) (v:=?_) (a':=?_) #[true,true,true,true,true,true,true,true,true,true,true,true,true,true,true,false,true,true,true,false,false,false,false,false] rfl rfl (any_of HT_.out (by kernel_rfl)) (fun _ _ _ h=>h) (Or.inl ⟨by rfl,?_⟩) ?_ ?_
          rotate_left
          ·intro w'
           go_simp
           with_reducible rfl
          rotate_left
          ·simp only [Act.put,setIfInBounds_toArray,set_cons_zero,set_cons_succ,i64_w,i32_w]
           rfl
          refine pure_ (i:=19) (N:=some 29) (v:=?_) (a':=?_) #[true,true,true,true,true,true,true,true,true,true,true,true,true,true,true,false,true,true,true,true,false,false,false,false] rfl rfl (any_of HT_.out (by kernel_rfl)) (fun _ _ _ h=>h) (Or.inl ⟨by rfl,?_⟩) ?_ ?_
          rotate_left
          ·intro w'
           go_simp
           with_reducible rfl
          rotate_left
          ·simp only [Act.put,setIfInBounds_toArray,set_cons_zero,set_cons_succ,i64_w,i32_w]
           rfl
          refine take_ (i:=15) (N:=some 25) (v:=?_) (a':=?_) #[true,true,true,true,true,true,true,true,true,true,true,true,true,true,true,true,true,true,true,true,false,false,false,false] rfl rfl (take_ofW HT_.out HW_.out (by kernel_rfl)) (fun _ _ _ h=>h) (Or.inl ⟨by rfl,?_⟩) hHeld ?_ ?_
          rotate_left
          ·rintro w' ⟨s0,s1,s2,s3,s4,s5,s6,s7,s8,s9,s10,s11,s12,s13,s14,s15,s16,s17⟩
           go_simp
           with_reducible rfl
          rotate_left
          ·simp only [Act.put,setIfInBounds_toArray,set_cons_zero,set_cons_succ,i64_w,i32_w]
           rfl
          refine take_ (i:=20) (N:=some 30) (v:=?_) (a':=?_) #[true,true,true,true,true,true,true,true,true,true,true,true,true,true,true,true,true,true,true,true,true,false,false,false] rfl rfl (take_ofW HT_.out HW_.out (by kernel_rfl)) (fun _ _ _ h=>h) (Or.inl ⟨by rfl,?_⟩) hHeld ?_ ?_
          rotate_left
          ·rintro w' ⟨s0,s1,s2,s3,s4,s5,s6,s7,s8,s9,s10,s11,s12,s13,s14,s15,s16,s17⟩
           go_simp
           with_reducible rfl
          rotate_left
          ·simp only [Act.put,setIfInBounds_toArray,set_cons_zero,set_cons_succ,i64_w,i32_w]
           rfl
          refine pure_ (i:=21) (N:=some 31) (v:=?_) (a':=?_) #[true,true,true,true,true,true,true,true,true,true,true,true,true,true,true,true,true,true,true,true,true,true,false,false] rfl rfl (any_of HT_.out (by kernel_rfl)) (fun _ _ _ h=>h) (Or.inl ⟨by rfl,?_⟩) ?_ ?_
          rotate_left
          ·intro w'
           go_simp
           with_reducible rfl
          rotate_left
          ·simp only [Act.put,setIfInBounds_toArray,set_cons_zero,set_cons_succ,i64_w,i32_w]
           rfl
          refine pure_ (i:=22) (N:=some 32) (v:=?_) (a':=?_) #[true,true,true,true,true,true,true,true,true,true,true,true,true,true,true,true,true,true,true,true,true,true,true,false] rfl rfl (any_of HT_.out (by kernel_rfl)) (fun _ _ _ h=>h) (Or.inl ⟨by rfl,?_⟩) ?_ ?_
          rotate_left
          ·intro w'
           go_simp
           with_reducible rfl
          rotate_left
          ·simp only [Act.put,setIfInBounds_toArray,set_cons_zero,set_cons_succ,i64_w,i32_w]
           rfl
          refine pure_ (i:=23) (N:=some 33) (v:=?_) (a':=?_) #[true,true,true,true,true,true,true,true,true,true,true,true,true,true,true,true,true,true,true,true,true,true,true,true] rfl rfl (any_of HT_.out (by kernel_rfl)) (fun _ _ _ h=>h) (Or.inl ⟨by rfl,?_⟩) ?_ ?_
          rotate_left
          ·intro w'
           go_simp
           with_reducible rfl
          rotate_left
          ·simp only [Act.put,setIfInBounds_toArray,set_cons_zero,set_cons_succ,i64_w,i32_w]
           rfl
          refine done_ (done_of HT_.out (by kernel_rfl)) ?_
          try go_wp2
          go_roundg k1
          case measure=>have:=HK1.out;omega
          case rel=>exact ⟨(wrap64 (x3_1+1)),(by first|rfl|(simp;done)|(simp [*];done)),H',⟨by have:=HK1.out;omega⟩,⟨by repeat (first|(with_reducible first|exact HB.out|apply below_alloc|apply pw_below_drewN|apply below_drew1)|exact HB.out)⟩⟩
        ·rw [if_neg c9] at H
         exact absurd H (by simp)
       ·rw [if_neg c8] at H
        exact absurd H (by simp)
      ·rw [if_neg c6] at H
       have c6b0:decide (0 < x3_1)=false:=decide_eq_false c6
       clear c6
       have H':=Aside0.mk H
       clear H
       try go_wp2
       have n0_:=Aside0.mk (below_drew1 HB.out)
       clear HB
       have HB:=n0_
       clear n0_
       have p387 : 0 ≤ (x3_1:Int):=of_decide_eq_true (by first|(with_reducible assumption)|assumption)
       have q387:x3_1 < (l0.length:Int):=of_decide_eq_true (by first|(with_reducible assumption)|assumption)
       obtain ⟨ad387,A387_3,c387_3,A387_5,c387_5,e387,hx387_0,hx387_1,hx387_2,hx387_3,hx387_4,hx387_5,hl387_3,hi387_3,hl387_5,hi387_5⟩:=at_T79 HR0.out x3_1 p387 q387
       have hw387_5:=hx387_5
       have hw387_4:=hx387_4
       have hw387_3:=hx387_3
       have hw387_2:=hx387_2
       have hw387_1:=hx387_1
       have hw387_0:=hx387_0
       cases e387
       replace hx387_0:=(HB.out.cell (World.block_lt_of_cell? w _ hx387_0)).trans hx387_0
       replace hx387_1:=(HB.out.cell (World.block_lt_of_cell? w _ hx387_1)).trans hx387_1
       replace hx387_2:=(HB.out.cell (World.block_lt_of_cell? w _ hx387_2)).trans hx387_2
       replace hx387_3:=(HB.out.cell (World.block_lt_of_cell? w _ hx387_3)).trans hx387_3
       replace hx387_4:=(HB.out.cell (World.block_lt_of_cell? w _ hx387_4)).trans hx387_4
       replace hx387_5:=(HB.out.cell (World.block_lt_of_cell? w _ hx387_5)).trans hx387_5
       have HR387_3:=Aside0.mk hi387_3
       have HC387_3:=Aside0.mk hl387_3
       clear hi387_3 hl387_3
       have HR387_5:=Aside0.mk hi387_5
       have HC387_5:=Aside0.mk hl387_5
       clear hi387_5 hl387_5
       replace p387:=eq_true p387
       replace q387:=eq_true q387
       refine start_ (n:=24) (S:=fun w'=>w'.cell? (ad387.add ((x3_1).toNat * 6))=some (.int .i64 ((rd_T79 l0 x3_1).f0))∧w'.cell? ⟨(ad387.add ((x3_1).toNat * 6)).block,(ad387.add ((x3_1).toNat * 6)).off+1,none⟩=some (.int .i64 ((rd_T79 l0 x3_1).f1))∧w'.cell? ⟨(ad387.add ((x3_1).toNat * 6)).block,(ad387.add ((x3_1).toNat * 6)).off+2,none⟩=some (.bool ((rd_T79 l0 x3_1).f2))∧w'.cell? ⟨(ad387.add ((x3_1).toNat * 6)).block,(ad387.add ((x3_1).toNat * 6)).off+3,none⟩=some (.slice A387_3 ((rd_T79 l0 x3_1).f3).length c387_3)∧w'.cell? ⟨(ad387.add ((x3_1).toNat * 6)).block,(ad387.add ((x3_1).toNat * 6)).off+4,none⟩=some (.bool ((rd_T79 l0 x3_1).f4))∧w'.cell? ⟨(ad387.add ((x3_1).toNat * 6)).block,(ad387.add ((x3_1).toNat * 6)).off+5,none⟩=some (.slice A387_5 ((rd_T79 l0 x3_1).f5).length c387_5)) (ds:=[]) #[false,false,false,false,false,false,false,false,false,false,false,false,false,false,false,false,false,false,false,false,false,false,false,false] (by kernel_rfl) rfl rfl ⟨((HB.out.cell (World.block_lt_of_cell? w _ hw387_0)).trans hw387_0),((HB.out.cell (World.block_lt_of_cell? w _ hw387_1)).trans hw387_1),((HB.out.cell (World.block_lt_of_cell? w _ hw387_2)).trans hw387_2),((HB.out.cell (World.block_lt_of_cell? w _ hw387_3)).trans hw387_3),((HB.out.cell (World.block_lt_of_cell? w _ hw387_4)).trans hw387_4),((HB.out.cell (World.block_lt_of_cell? w _ hw387_5)).trans hw387_5)⟩ (fun hHeld=>?_);refine with_tabW spec_l5Records.tab4 spec_l5Records.bits4 (fun HT_ HW_=>?_)
       generalize wr.drew=w15 at HB HR387_3 HR387_5 hx387_0 hx387_1 hx387_2 hx387_3 hx387_4 hx387_5 hHeld ⊢
       refine pure_ (i:=0) (N:=some 10) (v:=?_) (a':=?_) #[true,false,false,false,false,false,false,false,false,false,false,false,false,false,false,false,false,false,false,false,false,false,false,false] rfl rfl (any_of HT_.out (by kernel_rfl)) (fun _ _ _ h=>h) (Or.inl ⟨by rfl,?_⟩) ?_ ?_
       rotate_left
       ·intro w'
        go_simp
        with_reducible rfl
       rotate_left
       ·simp only [Act.put,setIfInBounds_toArray,set_cons_zero,set_cons_succ,i64_w,i32_w]
        rfl
       refine pure_ (i:=1) (N:=some 11) (v:=?_) (a':=?_) #[true,true,false,false,false,false,false,false,false,false,false,false,false,false,false,false,false,false,false,false,false,false,false,false] rfl rfl (any_of HT_.out (by kernel_rfl)) (fun _ _ _ h=>h) (Or.inl ⟨by rfl,?_⟩) ?_ ?_
       rotate_left
       ·intro w'
        go_simp
        with_reducible rfl
       rotate_left
       ·simp only [Act.put,setIfInBounds_toArray,set_cons_zero,set_cons_succ,i64_w,i32_w]
        rfl
       refine pure_ (i:=2) (N:=some 12) (v:=?_) (a':=?_) #[true,true,true,false,false,false,false,false,false,false,false,false,false,false,false,false,false,false,false,false,false,false,false,false] rfl rfl (any_of HT_.out (by kernel_rfl)) (fun _ _ _ h=>h) (Or.inl ⟨by rfl,?_⟩) ?_ ?_
       rotate_left
       ·intro w'
        go_simp
        with_reducible rfl
       rotate_left
       ·simp only [Act.put,setIfInBounds_toArray,set_cons_zero,set_cons_succ,i64_w,i32_w]
        rfl
       refine take_ (i:=3) (N:=some 13) (v:=?_) (a':=?_) #[true,true,true,true,false,false,false,false,false,false,false,false,false,false,false,false,false,false,false,false,false,false,false,false] rfl rfl (take_ofW HT_.out HW_.out (by kernel_rfl)) (fun _ _ _ h=>h) (Or.inl ⟨by rfl,?_⟩) hHeld ?_ ?_
       rotate_left
       ·rintro w' ⟨s0,s1,s2,s3,s4,s5⟩
        go_simp
        with_reducible rfl
       rotate_left
       ·simp only [Act.put,setIfInBounds_toArray,set_cons_zero,set_cons_succ,i64_w,i32_w]
        rfl
       refine one_ (i:=4) (N:=some 14) #[true,true,true,true,true,false,false,false,false,false,false,false,false,false,false,false,false,false,false,false,false,false,false,false] rfl rfl (one_of HT_.out (by kernel_rfl)) (by decide) (fun K hK=>?_)
       refine goes_ Try.func78 (by kernel_rfl) rfl #[.agg #[.int .i64 ((rd_T79 l0 x3_1).f0),.int .i64 ((rd_T79 l0 x3_1).f1),.bool ((rd_T79 l0 x3_1).f2),.slice A387_3 ((rd_T79 l0 x3_1).f3).length c387_3,.bool ((rd_T79 l0 x3_1).f4),.slice A387_5 ((rd_T79 l0 x3_1).f5).length c387_5]] (by rfl) rfl rfl (by (try simp only [map_toArray,map_cons,map_nil]);first|done|rfl|(simp only [length_drop,length_take];rfl)) ?_
       with_reducible refine (spec_RecordValid.calls k1 ((rd_T79 l0 x3_1).f0) ((rd_T79 l0 x3_1).f1) ((rd_T79 l0 x3_1).f2) _ _ ((rd_T79 l0 x3_1).f3) ((rd_T79 l0 x3_1).f4) _ _ ((rd_T79 l0 x3_1).f5) true _ ?side1 ?side2 ?side3 ?side4 A4.out).mono ?_
       (case side1=>repeat (first|exact (Kd.C_below HR387_3.out HB.out)|(with_reducible refine Kd.C_alloc ?_ _)|(with_reducible refine Kd.C_drewN ?_ _)|(with_reducible refine Kd.C_drew ?_)))
       (case side2=>exact HC387_3.out)
       (case side3=>repeat (first|exact (Kd.C_below HR387_5.out HB.out)|(with_reducible refine Kd.C_alloc ?_ _)|(with_reducible refine Kd.C_drewN ?_ _)|(with_reducible refine Kd.C_drew ?_)))
       (case side4=>exact HC387_5.out)
       rintro e w16 ⟨rfl,hb⟩
       refine ⟨_,rfl,?_⟩
       have n0_:=Aside0.mk (below_step (by repeat (first|(with_reducible first|exact HB.out|apply below_alloc|apply pw_below_drewN|apply below_drew1)|exact HB.out)) hb)
       clear HB
       have HB:=n0_
       clear n0_
       (try clear hb)
       (try clear hb2)
       (try clear hk)
       (try clear hi)
       refine hK.out _ _ ⟨((HB.out.cell (World.block_lt_of_cell? w _ hw387_0)).trans hw387_0),((HB.out.cell (World.block_lt_of_cell? w _ hw387_1)).trans hw387_1),((HB.out.cell (World.block_lt_of_cell? w _ hw387_2)).trans hw387_2),((HB.out.cell (World.block_lt_of_cell? w _ hw387_3)).trans hw387_3),((HB.out.cell (World.block_lt_of_cell? w _ hw387_4)).trans hw387_4),((HB.out.cell (World.block_lt_of_cell? w _ hw387_5)).trans hw387_5)⟩ (fun hHeld=>?_)
       clear hK K
       refine norm_ (a':=?_) ?_ ?_
       rotate_left
       ·show Act.put _ (some 14) _ = _
        simp only [Act.put,setIfInBounds_toArray,set_cons_zero,set_cons_succ,i64_w,i32_w]
        rfl
       refine pure_ (i:=5) (N:=some 15) (v:=?_) (a':=?_) #[true,true,true,true,true,true,false,false,false,false,false,false,false,false,false,false,false,false,false,false,false,false,false,false] rfl rfl (any_of HT_.out (by kernel_rfl)) (fun _ _ _ h=>h) (Or.inl ⟨by rfl,?_⟩) ?_ ?_
       rotate_left
       ·intro w'
        go_simp
        with_reducible rfl
       rotate_left
       ·simp only [Act.put,setIfInBounds_toArray,set_cons_zero,set_cons_succ,i64_w,i32_w]
        rfl
       refine pure_ (i:=6) (N:=some 16) (v:=?_) (a':=?_) #[true,true,true,true,true,true,true,false,false,false,false,false,false,false,false,false,false,false,false,false,false,false,false,false] rfl rfl (any_of HT_.out (by kernel_rfl)) (fun _ _ _ h=>h) (Or.inl ⟨by rfl,?_⟩) ?_ ?_
       rotate_left
       ·intro w'
        go_simp
        with_reducible rfl
       rotate_left
       ·simp only [Act.put,setIfInBounds_toArray,set_cons_zero,set_cons_succ,i64_w,i32_w]
        rfl
       refine pure_ (i:=7) (N:=some 17) (v:=?_) (a':=?_) #[true,true,true,true,true,true,true,true,false,false,false,false,false,false,false,false,false,false,false,false,false,false,false,false] rfl rfl (any_of HT_.out (by kernel_rfl)) (fun _ _ _ h=>h) (Or.inl ⟨by rfl,?_⟩) ?_ ?_
       rotate_left
       ·intro w'
        go_simp
        with_reducible rfl
       rotate_left
       ·simp only [Act.put,setIfInBounds_toArray,set_cons_zero,set_cons_succ,i64_w,i32_w]
        rfl
       refine pure_ (i:=8) (N:=some 18) (v:=?_) (a':=?_) #[true,true,true,true,true,true,true,true,true,false,false,false,false,false,false,false,false,false,false,false,false,false,false,false] rfl rfl (any_of HT_.out (by kernel_rfl)) (fun _ _ _ h=>h) (Or.inl ⟨by rfl,?_⟩) ?_ ?_
       rotate_left
       ·intro w'
        go_simp
        with_reducible rfl
       rotate_left
       ·simp only [Act.put,setIfInBounds_toArray,set_cons_zero,set_cons_succ,i64_w,i32_w]
        rfl
       refine pure_ (i:=9) (N:=some 19) (v:=?_) (a':=?_) #[true,true,true,true,true,true,true,true,true,true,false,false,false,false,false,false,false,false,false,false,false,false,false,false] rfl rfl (any_of HT_.out (by kernel_rfl)) (fun _ _ _ h=>h) (Or.inl ⟨by rfl,?_⟩) ?_ ?_
       rotate_left
       ·intro w'
        go_simp
        with_reducible rfl
       rotate_left
       ·simp only [Act.put,setIfInBounds_toArray,set_cons_zero,set_cons_succ,i64_w,i32_w]
        rfl
       refine pure_ (i:=10) (N:=some 20) (v:=undef) (a':=?_) #[true,true,true,true,true,true,true,true,true,true,true,false,false,false,false,false,false,false,false,false,false,false,false,false] rfl rfl (any_of HT_.out (by kernel_rfl)) (fun _ _ _ h=>h) (Or.inr ⟨by rfl,rfl⟩) ?_ ?_
       rotate_left
       ·simp only [Act.put,setIfInBounds_toArray,set_cons_zero,set_cons_succ,i64_w,i32_w]
        rfl
       refine pure_ (i:=11) (N:=some 21) (v:=undef) (a':=?_) #[true,true,true,true,true,true,true,true,true,true,true,true,false,false,false,false,false,false,false,false,false,false,false,false] rfl rfl (any_of HT_.out (by kernel_rfl)) (fun _ _ _ h=>h) (Or.inr ⟨by rfl,rfl⟩) ?_ ?_
       rotate_left
       ·simp only [Act.put,setIfInBounds_toArray,set_cons_zero,set_cons_succ,i64_w,i32_w]
        rfl
       refine pure_ (i:=12) (N:=some 22) (v:=undef) (a':=?_) #[true,true,true,true,true,true,true,true,true,true,true,true,true,false,false,false,false,false,false,false,false,false,false,false] rfl rfl (any_of HT_.out (by kernel_rfl)) (fun _ _ _ h=>h) (Or.inr ⟨by rfl,rfl⟩) ?_ ?_
       rotate_left
       ·simp only [Act.put,setIfInBounds_toArray,set_cons_zero,set_cons_succ,i64_w,i32_w]
        rfl
       refine pure_ (i:=13) (N:=some 23) (v:=undef) (a':=?_) #[true,true,true,true,true,true,true,true,true,true,true,true,true,true,false,false,false,false,false,false,false,false,false,false] rfl rfl (any_of HT_.out (by kernel_rfl)) (fun _ _ _ h=>h) (Or.inr ⟨by rfl,rfl⟩) ?_ ?_
       rotate_left
       ·simp only [Act.put,setIfInBounds_toArray,set_cons_zero,set_cons_succ,i64_w,i32_w]
        rfl
       refine pure_ (i:=14) (N:=some 24) (v:=undef) (a':=?_) #[true,true,true,true,true,true,true,true,true,true,true,true,true,true,true,false,false,false,false,false,false,false,false,false] rfl rfl (any_of HT_.out (by kernel_rfl)) (fun _ _ _ h=>h) (Or.inr ⟨by rfl,rfl⟩) ?_ ?_
       rotate_left
       ·simp only [Act.put,setIfInBounds_toArray,set_cons_zero,set_cons_succ,i64_w,i32_w]
        rfl
       refine pure_ (i:=15) (N:=some 25) (v:=undef) (a':=?_) #[true,true,true,true,true,true,true,true,true,true,true,true,true,true,true,true,false,false,false,false,false,false,false,false] rfl rfl (any_of HT_.out (by kernel_rfl)) (fun _ _ _ h=>h) (Or.inr ⟨by rfl,rfl⟩) ?_ ?_
       rotate_left
       ·simp only [Act.put,setIfInBounds_toArray,set_cons_zero,set_cons_succ,i64_w,i32_w]
        rfl
       refine pure_ (i:=16) (N:=some 26) (v:=undef) (a':=?_) #[true,true,true,true,true,true,true,true,true,true,true,true,true,true,true,true,true,false,false,false,false,false,false,false] rfl rfl (any_of HT_.out (by kernel_rfl)) (fun _ _ _ h=>h) (Or.inr ⟨by rfl,rfl⟩) ?_ ?_
       rotate_left
       ·simp only [Act.put,setIfInBounds_toArray,set_cons_zero,set_cons_succ,i64_w,i32_w]
        rfl
       refine pure_ (i:=17) (N:=some 27) (v:=undef) (a':=?_) #[true,true,true,true,true,true,true,true,true,true,true,true,true,true,true,true,true,true,false,false,false,false,false,false] rfl rfl (any_of HT_.out (by kernel_rfl)) (fun _ _ _ h=>h) (Or.inr ⟨by rfl,rfl⟩) ?_ ?_
       rotate_left
       ·simp only [Act.put,setIfInBounds_toArray,set_cons_zero,set_cons_succ,i64_w,i32_w]
        rfl
       refine pure_ (i:=18) (N:=some 28) (v:=undef) (a':=?_) #[true,true,true,true,true,true,true,true,true,true,true,true,true,true,true,true,true,true,true,false,false,false,false,false] rfl rfl (any_of HT_.out (by kernel_rfl)) (fun _ _ _ h=>h) (Or.inr ⟨by rfl,rfl⟩) ?_ ?_
       rotate_left
       ·simp only [Act.put,setIfInBounds_toArray,set_cons_zero,set_cons_succ,i64_w,i32_w]
        rfl
       refine pure_ (i:=19) (N:=some 29) (v:=undef) (a':=?_) #[true,true,true,true,true,true,true,true,true,true,true,true,true,true,true,true,true,true,true,true,false,false,false,false] rfl rfl (any_of HT_.out (by kernel_rfl)) (fun _ _ _ h=>h) (Or.inr ⟨by rfl,rfl⟩) ?_ ?_
       rotate_left
       ·simp only [Act.put,setIfInBounds_toArray,set_cons_zero,set_cons_succ,i64_w,i32_w]
        rfl
       refine pure_ (i:=20) (N:=some 30) (v:=undef) (a':=?_) #[true,true,true,true,true,true,true,true,true,true,true,true,true,true,true,true,true,true,true,true,true,false,false,false] rfl rfl (any_of HT_.out (by kernel_rfl)) (fun _ _ _ h=>h) (Or.inr ⟨by rfl,rfl⟩) ?_ ?_
       rotate_left
       ·simp only [Act.put,setIfInBounds_toArray,set_cons_zero,set_cons_succ,i64_w,i32_w]
        rfl
       refine pure_ (i:=21) (N:=some 31) (v:=undef) (a':=?_) #[true,true,true,true,true,true,true,true,true,true,true,true,true,true,true,true,true,true,true,true,true,true,false,false] rfl rfl (any_of HT_.out (by kernel_rfl)) (fun _ _ _ h=>h) (Or.inr ⟨by rfl,rfl⟩) ?_ ?_
       rotate_left
       ·simp only [Act.put,setIfInBounds_toArray,set_cons_zero,set_cons_succ,i64_w,i32_w]
        rfl
       refine pure_ (i:=22) (N:=some 32) (v:=?_) (a':=?_) #[true,true,true,true,true,true,true,true,true,true,true,true,true,true,true,true,true,true,true,true,true,true,true,false] rfl rfl (any_of HT_.out (by kernel_rfl)) (fun _ _ _ h=>h) (Or.inl ⟨by rfl,?_⟩) ?_ ?_
       rotate_left
       ·intro w'
        go_simp
        with_reducible rfl
       rotate_left
       ·simp only [Act.put,setIfInBounds_toArray,set_cons_zero,set_cons_succ,i64_w,i32_w]
        rfl
       refine pure_ (i:=23) (N:=some 33) (v:=?_) (a':=?_) #[true,true,true,true,true,true,true,true,true,true,true,true,true,true,true,true,true,true,true,true,true,true,true,true] rfl rfl (any_of HT_.out (by kernel_rfl)) (fun _ _ _ h=>h) (Or.inl ⟨by rfl,?_⟩) ?_ ?_
       rotate_left
       ·intro w'
        go_simp
        with_reducible rfl
       rotate_left
       ·simp only [Act.put,setIfInBounds_toArray,set_cons_zero,set_cons_succ,i64_w,i32_w]
        rfl
       refine done_ (done_of HT_.out (by kernel_rfl)) ?_
       try go_wp2
       go_roundg k1
       case measure=>have:=HK1.out;omega
       case rel=>exact ⟨(wrap64 (x3_1+1)),(by first|rfl|(simp;done)|(simp [*];done)),H',⟨by have:=HK1.out;omega⟩,⟨by repeat (first|(with_reducible first|exact HB.out|apply below_alloc|apply pw_below_drewN|apply below_drew1)|exact HB.out)⟩⟩
     ·replace c5:=Bool.eq_false_iff.mpr c5
      subst c5
      have H1:(some false)=some r:=by rw [if_neg (show ¬ (false=true) by decide)] at H;exact H
      clear H
      have H:=H1
      clear H1
      obtain rfl:=Option.some.inj H
      try go_wp2
      have n0_:=Aside0.mk (below_drew1 HB.out)
      clear HB
      have HB:=n0_
      clear n0_
      have p387 : 0 ≤ (x3_1:Int):=of_decide_eq_true (by first|(with_reducible assumption)|assumption)
      have q387:x3_1 < (l0.length:Int):=of_decide_eq_true (by first|(with_reducible assumption)|assumption)
      obtain ⟨ad387,A387_3,c387_3,A387_5,c387_5,e387,hx387_0,hx387_1,hx387_2,hx387_3,hx387_4,hx387_5,hl387_3,hi387_3,hl387_5,hi387_5⟩:=at_T79 HR0.out x3_1 p387 q387
      have hw387_5:=hx387_5
      have hw387_4:=hx387_4
      have hw387_3:=hx387_3
      have hw387_2:=hx387_2
      have hw387_1:=hx387_1
      have hw387_0:=hx387_0
      cases e387
      replace hx387_0:=(HB.out.cell (World.block_lt_of_cell? w _ hx387_0)).trans hx387_0
      replace hx387_1:=(HB.out.cell (World.block_lt_of_cell? w _ hx387_1)).trans hx387_1
      replace hx387_2:=(HB.out.cell (World.block_lt_of_cell? w _ hx387_2)).trans hx387_2
      replace hx387_3:=(HB.out.cell (World.block_lt_of_cell? w _ hx387_3)).trans hx387_3
      replace hx387_4:=(HB.out.cell (World.block_lt_of_cell? w _ hx387_4)).trans hx387_4
      replace hx387_5:=(HB.out.cell (World.block_lt_of_cell? w _ hx387_5)).trans hx387_5
      have HR387_3:=Aside0.mk hi387_3
      have HC387_3:=Aside0.mk hl387_3
      clear hi387_3 hl387_3
      have HR387_5:=Aside0.mk hi387_5
      have HC387_5:=Aside0.mk hl387_5
      clear hi387_5 hl387_5
      replace p387:=eq_true p387
      replace q387:=eq_true q387
      refine start_ (n:=24) (S:=fun w'=>w'.cell? (ad387.add ((x3_1).toNat * 6))=some (.int .i64 ((rd_T79 l0 x3_1).f0))∧w'.cell? ⟨(ad387.add ((x3_1).toNat * 6)).block,(ad387.add ((x3_1).toNat * 6)).off+1,none⟩=some (.int .i64 ((rd_T79 l0 x3_1).f1))∧w'.cell? ⟨(ad387.add ((x3_1).toNat * 6)).block,(ad387.add ((x3_1).toNat * 6)).off+2,none⟩=some (.bool ((rd_T79 l0 x3_1).f2))∧w'.cell? ⟨(ad387.add ((x3_1).toNat * 6)).block,(ad387.add ((x3_1).toNat * 6)).off+3,none⟩=some (.slice A387_3 ((rd_T79 l0 x3_1).f3).length c387_3)∧w'.cell? ⟨(ad387.add ((x3_1).toNat * 6)).block,(ad387.add ((x3_1).toNat * 6)).off+4,none⟩=some (.bool ((rd_T79 l0 x3_1).f4))∧w'.cell? ⟨(ad387.add ((x3_1).toNat * 6)).block,(ad387.add ((x3_1).toNat * 6)).off+5,none⟩=some (.slice A387_5 ((rd_T79 l0 x3_1).f5).length c387_5)) (ds:=[]) #[false,false,false,false,false,false,false,false,false,false,false,false,false,false,false,false,false,false,false,false,false,false,false,false] (by kernel_rfl) rfl rfl ⟨((HB.out.cell (World.block_lt_of_cell? w _ hw387_0)).trans hw387_0),((HB.out.cell (World.block_lt_of_cell? w _ hw387_1)).trans hw387_1),((HB.out.cell (World.block_lt_of_cell? w _ hw387_2)).trans hw387_2),((HB.out.cell (World.block_lt_of_cell? w _ hw387_3)).trans hw387_3),((HB.out.cell (World.block_lt_of_cell? w _ hw387_4)).trans hw387_4),((HB.out.cell (World.block_lt_of_cell? w _ hw387_5)).trans hw387_5)⟩ (fun hHeld=>?_);refine with_tabW spec_l5Records.tab4 spec_l5Records.bits4 (fun HT_ HW_=>?_)
      generalize wr.drew=w17 at HB HR387_3 HR387_5 hx387_0 hx387_1 hx387_2 hx387_3 hx387_4 hx387_5 hHeld ⊢
      refine pure_ (i:=0) (N:=some 10) (v:=?_) (a':=?_) #[true,false,false,false,false,false,false,false,false,false,false,false,false,false,false,false,false,false,false,false,false,false,false,false] rfl rfl (any_of HT_.out (by kernel_rfl)) (fun _ _ _ h=>h) (Or.inl ⟨by rfl,?_⟩) ?_ ?_
      rotate_left
      ·intro w'
       go_simp
       with_reducible rfl
      rotate_left
      ·simp only [Act.put,setIfInBounds_toArray,set_cons_zero,set_cons_succ,i64_w,i32_w]
       rfl
      refine pure_ (i:=1) (N:=some 11) (v:=?_) (a':=?_) #[true,true,false,false,false,false,false,false,false,false,false,false,false,false,false,false,false,false,false,false,false,false,false,false] rfl rfl (any_of HT_.out (by kernel_rfl)) (fun _ _ _ h=>h) (Or.inl ⟨by rfl,?_⟩) ?_ ?_
      rotate_left
      ·intro w'
       go_simp
       with_reducible rfl
      rotate_left
      ·simp only [Act.put,setIfInBounds_toArray,set_cons_zero,set_cons_succ,i64_w,i32_w]
       rfl
      refine pure_ (i:=2) (N:=some 12) (v:=?_) (a':=?_) #[true,true,true,false,false,false,false,false,false,false,false,false,false,false,false,false,false,false,false,false,false,false,false,false] rfl rfl (any_of HT_.out (by kernel_rfl)) (fun _ _ _ h=>h) (Or.inl ⟨by rfl,?_⟩) ?_ ?_
      rotate_left
      ·intro w'
       go_simp
       with_reducible rfl
      rotate_left
      ·simp only [Act.put,setIfInBounds_toArray,set_cons_zero,set_cons_succ,i64_w,i32_w]
       rfl
      refine take_ (i:=3) (N:=some 13) (v:=?_) (a':=?_) #[true,true,true,true,false,false,false,false,false,false,false,false,false,false,false,false,false,false,false,false,false,false,false,false] rfl rfl (take_ofW HT_.out HW_.out (by kernel_rfl)) (fun _ _ _ h=>h) (Or.inl ⟨by rfl,?_⟩) hHeld ?_ ?_
      rotate_left
      ·rintro w' ⟨s0,s1,s2,s3,s4,s5⟩
       go_simp
       with_reducible rfl
      rotate_left
      ·simp only [Act.put,setIfInBounds_toArray,set_cons_zero,set_cons_succ,i64_w,i32_w]
       rfl
      refine one_ (i:=4) (N:=some 14) #[true,true,true,true,true,false,false,false,false,false,false,false,false,false,false,false,false,false,false,false,false,false,false,false] rfl rfl (one_of HT_.out (by kernel_rfl)) (by decide) (fun K hK=>?_)
      refine goes_ Try.func78 (by kernel_rfl) rfl #[.agg #[.int .i64 ((rd_T79 l0 x3_1).f0),.int .i64 ((rd_T79 l0 x3_1).f1),.bool ((rd_T79 l0 x3_1).f2),.slice A387_3 ((rd_T79 l0 x3_1).f3).length c387_3,.bool ((rd_T79 l0 x3_1).f4),.slice A387_5 ((rd_T79 l0 x3_1).f5).length c387_5]] (by rfl) rfl rfl (by (try simp only [map_toArray,map_cons,map_nil]);first|done|rfl|(simp only [length_drop,length_take];rfl)) ?_
      with_reducible refine (spec_RecordValid.calls k1 ((rd_T79 l0 x3_1).f0) ((rd_T79 l0 x3_1).f1) ((rd_T79 l0 x3_1).f2) _ _ ((rd_T79 l0 x3_1).f3) ((rd_T79 l0 x3_1).f4) _ _ ((rd_T79 l0 x3_1).f5) false _ ?side1 ?side2 ?side3 ?side4 A4.out).mono ?_
      (case side1=>repeat (first|exact (Kd.C_below HR387_3.out HB.out)|(with_reducible refine Kd.C_alloc ?_ _)|(with_reducible refine Kd.C_drewN ?_ _)|(with_reducible refine Kd.C_drew ?_)))
      (case side2=>exact HC387_3.out)
      (case side3=>repeat (first|exact (Kd.C_below HR387_5.out HB.out)|(with_reducible refine Kd.C_alloc ?_ _)|(with_reducible refine Kd.C_drewN ?_ _)|(with_reducible refine Kd.C_drew ?_)))
      (case side4=>exact HC387_5.out)
      rintro e w18 ⟨rfl,hb⟩
      refine ⟨_,rfl,?_⟩
      have n0_:=Aside0.mk (below_step (by repeat (first|(with_reducible first|exact HB.out|apply below_alloc|apply pw_below_drewN|apply below_drew1)|exact HB.out)) hb)
      clear HB
      have HB:=n0_
      clear n0_
      (try clear hb)
      (try clear hb2)
      (try clear hk)
      (try clear hi)
      refine hK.out _ _ ⟨((HB.out.cell (World.block_lt_of_cell? w _ hw387_0)).trans hw387_0),((HB.out.cell (World.block_lt_of_cell? w _ hw387_1)).trans hw387_1),((HB.out.cell (World.block_lt_of_cell? w _ hw387_2)).trans hw387_2),((HB.out.cell (World.block_lt_of_cell? w _ hw387_3)).trans hw387_3),((HB.out.cell (World.block_lt_of_cell? w _ hw387_4)).trans hw387_4),((HB.out.cell (World.block_lt_of_cell? w _ hw387_5)).trans hw387_5)⟩ (fun hHeld=>?_)
      clear hK K
      refine norm_ (a':=?_) ?_ ?_
      rotate_left
      ·show Act.put _ (some 14) _ = _
       simp only [Act.put,setIfInBounds_toArray,set_cons_zero,set_cons_succ,i64_w,i32_w]
       rfl
      refine pure_ (i:=5) (N:=some 15) (v:=?_) (a':=?_) #[true,true,true,true,true,true,false,false,false,false,false,false,false,false,false,false,false,false,false,false,false,false,false,false] rfl rfl (any_of HT_.out (by kernel_rfl)) (fun _ _ _ h=>h) (Or.inl ⟨by rfl,?_⟩) ?_ ?_
      rotate_left
      ·intro w'
       go_simp
       with_reducible rfl
      rotate_left
      ·simp only [Act.put,setIfInBounds_toArray,set_cons_zero,set_cons_succ,i64_w,i32_w]
       rfl
      refine pure_ (i:=6) (N:=some 16) (v:=?_) (a':=?_) #[true,true,true,true,true,true,true,false,false,false,false,false,false,false,false,false,false,false,false,false,false,false,false,false] rfl rfl (any_of HT_.out (by kernel_rfl)) (fun _ _ _ h=>h) (Or.inl ⟨by rfl,?_⟩) ?_ ?_
      rotate_left
      ·intro w'
       go_simp
       with_reducible rfl
      rotate_left
      ·simp only [Act.put,setIfInBounds_toArray,set_cons_zero,set_cons_succ,i64_w,i32_w]
       rfl
      refine pure_ (i:=7) (N:=some 17) (v:=undef) (a':=?_) #[true,true,true,true,true,true,true,true,false,false,false,false,false,false,false,false,false,false,false,false,false,false,false,false] rfl rfl (any_of HT_.out (by kernel_rfl)) (fun _ _ _ h=>h) (Or.inr ⟨by rfl,rfl⟩) ?_ ?_
      rotate_left
      ·simp only [Act.put,setIfInBounds_toArray,set_cons_zero,set_cons_succ,i64_w,i32_w]
       rfl
      refine pure_ (i:=8) (N:=some 18) (v:=undef) (a':=?_) #[true,true,true,true,true,true,true,true,true,false,false,false,false,false,false,false,false,false,false,false,false,false,false,false] rfl rfl (any_of HT_.out (by kernel_rfl)) (fun _ _ _ h=>h) (Or.inr ⟨by rfl,rfl⟩) ?_ ?_
      rotate_left
      ·simp only [Act.put,setIfInBounds_toArray,set_cons_zero,set_cons_succ,i64_w,i32_w]
       rfl
      refine pure_ (i:=9) (N:=some 19) (v:=undef) (a':=?_) #[true,true,true,true,true,true,true,true,true,true,false,false,false,false,false,false,false,false,false,false,false,false,false,false] rfl rfl (any_of HT_.out (by kernel_rfl)) (fun _ _ _ h=>h) (Or.inr ⟨by rfl,rfl⟩) ?_ ?_
      rotate_left
      ·simp only [Act.put,setIfInBounds_toArray,set_cons_zero,set_cons_succ,i64_w,i32_w]
       rfl
      refine pure_ (i:=10) (N:=some 20) (v:=undef) (a':=?_) #[true,true,true,true,true,true,true,true,true,true,true,false,false,false,false,false,false,false,false,false,false,false,false,false] rfl rfl (any_of HT_.out (by kernel_rfl)) (fun _ _ _ h=>h) (Or.inr ⟨by rfl,rfl⟩) ?_ ?_
      rotate_left
      ·simp only [Act.put,setIfInBounds_toArray,set_cons_zero,set_cons_succ,i64_w,i32_w]
       rfl
      refine pure_ (i:=11) (N:=some 21) (v:=undef) (a':=?_) #[true,true,true,true,true,true,true,true,true,true,true,true,false,false,false,false,false,false,false,false,false,false,false,false] rfl rfl (any_of HT_.out (by kernel_rfl)) (fun _ _ _ h=>h) (Or.inr ⟨by rfl,rfl⟩) ?_ ?_
      rotate_left
      ·simp only [Act.put,setIfInBounds_toArray,set_cons_zero,set_cons_succ,i64_w,i32_w]
       rfl
      refine pure_ (i:=12) (N:=some 22) (v:=undef) (a':=?_) #[true,true,true,true,true,true,true,true,true,true,true,true,true,false,false,false,false,false,false,false,false,false,false,false] rfl rfl (any_of HT_.out (by kernel_rfl)) (fun _ _ _ h=>h) (Or.inr ⟨by rfl,rfl⟩) ?_ ?_
      rotate_left
      ·simp only [Act.put,setIfInBounds_toArray,set_cons_zero,set_cons_succ,i64_w,i32_w]
       rfl
      refine pure_ (i:=13) (N:=some 23) (v:=undef) (a':=?_) #[true,true,true,true,true,true,true,true,true,true,true,true,true,true,false,false,false,false,false,false,false,false,false,false] rfl rfl (any_of HT_.out (by kernel_rfl)) (fun _ _ _ h=>h) (Or.inr ⟨by rfl,rfl⟩) ?_ ?_
      rotate_left
      ·simp only [Act.put,setIfInBounds_toArray,set_cons_zero,set_cons_succ,i64_w,i32_w]
       rfl
      refine pure_ (i:=14) (N:=some 24) (v:=undef) (a':=?_) #[true,true,true,true,true,true,true,true,true,true,true,true,true,true,true,false,false,false,false,false,false,false,false,false] rfl rfl (any_of HT_.out (by kernel_rfl)) (fun _ _ _ h=>h) (Or.inr ⟨by rfl,rfl⟩) ?_ ?_
      rotate_left
      ·simp only [Act.put,setIfInBounds_toArray,set_cons_zero,set_cons_succ,i64_w,i32_w]
       rfl
      refine pure_ (i:=15) (N:=some 25) (v:=undef) (a':=?_) #[true,true,true,true,true,true,true,true,true,true,true,true,true,true,true,true,false,false,false,false,false,false,false,false] rfl rfl (any_of HT_.out (by kernel_rfl)) (fun _ _ _ h=>h) (Or.inr ⟨by rfl,rfl⟩) ?_ ?_
      rotate_left
      ·simp only [Act.put,setIfInBounds_toArray,set_cons_zero,set_cons_succ,i64_w,i32_w]
       rfl
      refine pure_ (i:=16) (N:=some 26) (v:=undef) (a':=?_) #[true,true,true,true,true,true,true,true,true,true,true,true,true,true,true,true,true,false,false,false,false,false,false,false] rfl rfl (any_of HT_.out (by kernel_rfl)) (fun _ _ _ h=>h) (Or.inr ⟨by rfl,rfl⟩) ?_ ?_
      rotate_left
      ·simp only [Act.put,setIfInBounds_toArray,set_cons_zero,set_cons_succ,i64_w,i32_w]
       rfl
      refine pure_ (i:=17) (N:=some 27) (v:=undef) (a':=?_) #[true,true,true,true,true,true,true,true,true,true,true,true,true,true,true,true,true,true,false,false,false,false,false,false] rfl rfl (any_of HT_.out (by kernel_rfl)) (fun _ _ _ h=>h) (Or.inr ⟨by rfl,rfl⟩) ?_ ?_
      rotate_left
      ·simp only [Act.put,setIfInBounds_toArray,set_cons_zero,set_cons_succ,i64_w,i32_w]
       rfl
      refine pure_ (i:=18) (N:=some 28) (v:=undef) (a':=?_) #[true,true,true,true,true,true,true,true,true,true,true,true,true,true,true,true,true,true,true,false,false,false,false,false] rfl rfl (any_of HT_.out (by kernel_rfl)) (fun _ _ _ h=>h) (Or.inr ⟨by rfl,rfl⟩) ?_ ?_
      rotate_left
      ·simp only [Act.put,setIfInBounds_toArray,set_cons_zero,set_cons_succ,i64_w,i32_w]
       rfl
      refine pure_ (i:=19) (N:=some 29) (v:=undef) (a':=?_) #[true,true,true,true,true,true,true,true,true,true,true,true,true,true,true,true,true,true,true,true,false,false,false,false] rfl rfl (any_of HT_.out (by kernel_rfl)) (fun _ _ _ h=>h) (Or.inr ⟨by rfl,rfl⟩) ?_ ?_
      rotate_left
      ·simp only [Act.put,setIfInBounds_toArray,set_cons_zero,set_cons_succ,i64_w,i32_w]
       rfl
      refine pure_ (i:=20) (N:=some 30) (v:=undef) (a':=?_) #[true,true,true,true,true,true,true,true,true,true,true,true,true,true,true,true,true,true,true,true,true,false,false,false] rfl rfl (any_of HT_.out (by kernel_rfl)) (fun _ _ _ h=>h) (Or.inr ⟨by rfl,rfl⟩) ?_ ?_
      rotate_left
      ·simp only [Act.put,setIfInBounds_toArray,set_cons_zero,set_cons_succ,i64_w,i32_w]
       rfl
      refine pure_ (i:=21) (N:=some 31) (v:=undef) (a':=?_) #[true,true,true,true,true,true,true,true,true,true,true,true,true,true,true,true,true,true,true,true,true,true,false,false] rfl rfl (any_of HT_.out (by kernel_rfl)) (fun _ _ _ h=>h) (Or.inr ⟨by rfl,rfl⟩) ?_ ?_
      rotate_left
      ·simp only [Act.put,setIfInBounds_toArray,set_cons_zero,set_cons_succ,i64_w,i32_w]
       rfl
      refine pure_ (i:=22) (N:=some 32) (v:=undef) (a':=?_) #[true,true,true,true,true,true,true,true,true,true,true,true,true,true,true,true,true,true,true,true,true,true,true,false] rfl rfl (any_of HT_.out (by kernel_rfl)) (fun _ _ _ h=>h) (Or.inr ⟨by rfl,rfl⟩) ?_ ?_
      rotate_left
      ·simp only [Act.put,setIfInBounds_toArray,set_cons_zero,set_cons_succ,i64_w,i32_w]
       rfl
      refine pure_ (i:=23) (N:=some 33) (v:=?_) (a':=?_) #[true,true,true,true,true,true,true,true,true,true,true,true,true,true,true,true,true,true,true,true,true,true,true,true] rfl rfl (any_of HT_.out (by kernel_rfl)) (fun _ _ _ h=>h) (Or.inl ⟨by rfl,?_⟩) ?_ ?_
      rotate_left
      ·intro w'
       go_simp
       with_reducible rfl
      rotate_left
      ·simp only [Act.put,setIfInBounds_toArray,set_cons_zero,set_cons_succ,i64_w,i32_w]
       rfl
      refine done_ (done_of HT_.out (by kernel_rfl)) ?_
      try go_wp2
      go_ret
      exact ⟨by first|rfl|(simp [errW_none,errW_some] <;> rfl)|(simp [*,errW_none,errW_some] <;> rfl),by repeat (first|(with_reducible first|exact HB.out|apply below_alloc|apply pw_below_drewN|apply below_drew1)|exact HB.out)⟩
    ·rw [if_neg c3] at H
     exact absurd H (by simp)
   ·rw [if_neg c2] at H
    have c2b0:decide (x3_1 < (l0.length:Int))=false:=decide_eq_false c2
    clear c2
    replace H:=Option.bind_eq_some_iff.mp H
    obtain ⟨t391,A190,H⟩:=H
    replace H:(some t391)=some r:=H
    have A19:=Aside0.mk A190
    clear A190
    obtain rfl:=Option.some.inj H
    go_wp2_with (first|((with_reducible refine gate_callee (f:=53) rfl ?_);refine goesL_ (some 36) rfl rfl Try.func53 (by kernel_rfl) rfl #[.int .i64 (l0.length:Int),.int .i64 1,.int .i64 6] rfl (by (try simp only [map_toArray,map_cons,map_nil]);first|done|rfl|(simp only [length_drop,length_take];rfl)) ?_;(with_reducible refine (spec_l6In.calls (l0.length:Int) 1 6 t391 _ A19.out).mono ?_);rintro e w' ⟨rfl,⟨nd,rfl⟩⟩;refine ⟨_,rfl,?_⟩))
    go_ret
    exact ⟨by first|rfl|(simp [errW_none,errW_some] <;> rfl)|(simp [*,errW_none,errW_some] <;> rfl),by repeat (first|(with_reducible first|exact HB.out|apply below_alloc|apply pw_below_drewN|apply below_drew1)|exact HB.out)⟩
end Go.Proofs.Ytkhmopmfbocokaa.T
namespace Go.Proofs.Ytkhmopmfbocokaa.T
open Go.RowKit Go.Proofs.YtkhmopmfbocokaaW.PrintWords Go.Proofs.YtkhmopmfbocokaaW.PrintLast Go.Proofs.YtkhmopmfbocokaaW.PrintMore
attribute [local go_sem] max2_int max_two
set_option linter.unusedVariables false
set_option linter.unusedSimpArgs false
def spec_BatchValid.j0:Nat→Bool→Bool→Bool→Int→Int→Int→List (S79)→Option (Bool)
 | 0,_,_,_,_,_,_,_=>none
 | k+1,x24,x393000,x393001,x393002,x393003,x393004,x393005=>if x24=true then (some false) else (if x393002=255 then (if x393003=0 then (if x393004=0 then (some (!x393001)) else (some false)) else (some false)) else (if x393001=true then (some ((x393005.length:Int) == 1)) else (some true)))
def spec_BatchValid.f (k:Nat) (a0_0:Bool) (a0_1:Bool) (a0_2:Int) (a0_3:Int) (a0_4:Int) (l0_5:List (S79)):Option (Bool):=(spec_l5Records.f k l0_5).bind fun t393=>(if t393=true then ((spec_l6In.f a0_2 0 255).bind fun t394=>(if t394=true then ((spec_l6In.f a0_3 0 99).bind fun t395=>(if t395=true then ((spec_l6In.f a0_4 0 9999).bind fun t396=>(spec_BatchValid.j0 k (!t396) a0_0 a0_1 a0_2 a0_3 a0_4 l0_5)) else (spec_BatchValid.j0 k true a0_0 a0_1 a0_2 a0_3 a0_4 l0_5))) else (spec_BatchValid.j0 k true a0_0 a0_1 a0_2 a0_3 a0_4 l0_5))) else (spec_BatchValid.j0 k true a0_0 a0_1 a0_2 a0_3 a0_4 l0_5))
set_option maxHeartbeats 8000000 in
set_option maxRecDepth 100000 in
theorem spec_BatchValid.calls (k:Nat) (a0_0:Bool) (a0_1:Bool) (a0_2:Int) (a0_3:Int) (a0_4:Int) (A0_5:Option Addr) (c0_5:Nat) (l0_5:List (S79)) (r:Bool) (w:World) (hr0_5:Kd.C k79 w A0_5 l0_5.length l0_5) (hc0_5:l0_5.length ≤ c0_5) (h:spec_BatchValid.f k a0_0 a0_1 a0_2 a0_3 a0_4 l0_5=some r) :
  Calls Try.prog 59 #[.agg #[.bool a0_0,.bool a0_1,.int .i64 a0_2,.int .i64 a0_3,.int .i64 a0_4,.slice A0_5 l0_5.length c0_5]] w fun e w'=>e = .returned (.bool r)∧Below w.heap.size w w':=by
 have hu34:=Try.underlying34
 have HR0_5:=Aside0.mk hr0_5
 have HC0_5:=Aside0.mk hc0_5
 clear hr0_5 hc0_5
 have HB:=Aside0.mk (Below.refl w.heap.size w)
 have H:((spec_l5Records.f k l0_5).bind fun t393=>(if t393=true then ((spec_l6In.f a0_2 0 255).bind fun t394=>(if t394=true then ((spec_l6In.f a0_3 0 99).bind fun t395=>(if t395=true then ((spec_l6In.f a0_4 0 9999).bind fun t396=>(spec_BatchValid.j0 k (!t396) a0_0 a0_1 a0_2 a0_3 a0_4 l0_5)) else (spec_BatchValid.j0 k true a0_0 a0_1 a0_2 a0_3 a0_4 l0_5))) else (spec_BatchValid.j0 k true a0_0 a0_1 a0_2 a0_3 a0_4 l0_5))) else (spec_BatchValid.j0 k true a0_0 a0_1 a0_2 a0_3 a0_4 l0_5)))=some r:=h
 clear h
 have HC2:=Aside0.mk H
 clear H
 go_enter Try.func59,Try.ntmps59
 go_upto_region 1 with (first|((with_reducible refine gate_dst (N:=1) rfl ?_);(try (refine gate_guard (by rfl) ?_;dsimp only));refine box_event ?hg (N:=1) ?hd (cs:=#[.bool a0_0,.bool a0_1,.int .i64 a0_2,.int .i64 a0_3,.int .i64 a0_4,.slice A0_5 l0_5.length c0_5]) (t:=34) ?hr ?_;(case hd=>rfl);(case hg=>rfl);(case hr=>first|(go_simp;done)|(go_simp;rfl));intro gb392 hg w3 hbox hb;have n0_:=Aside0.mk (below_step (by repeat (first|(with_reducible first|exact HB.out|apply below_alloc|apply pw_below_drewN|apply below_drew1)|exact HB.out)) hb);have n1_:=Aside0.mk (hbox);have n2_:=Aside0.mk ((by rw [hg];exact (below_size (by repeat (first|(with_reducible first|exact HB.out|apply below_alloc|apply pw_below_drewN|apply below_drew1)|exact HB.out))):w.heap.size ≤ gb392));have n3_:=Aside0.mk ((by rw [hg];exact (below_size (by repeat (first|(with_reducible first|exact HB.out|apply below_alloc|apply pw_below_drewN|apply below_drew1)|exact HB.out))):w.heap.size ≤ gb392));clear HB;have HB:=n0_;have BK392:=n1_;have GW392:=n2_;have GE392:=n3_;clear n0_ n1_ n2_ n3_;clear hb hbox hg))
 (try simp only [Act.put,setIfInBounds_toArray,set_cons_zero,set_cons_succ])
 go_cut [24] (fun v24 wc=>∃ (kq:Nat) (x24_1:Bool),v24 = .bool x24_1∧Aside0 (spec_BatchValid.j0 kq x24_1 a0_0 a0_1 a0_2 a0_3 a0_4 l0_5=some r)∧Aside0 (kq ≤ k)∧Aside0 (wc.heap[gb392]? = some (.cells #[.bool a0_0,.bool a0_1,.int .i64 a0_2,.int .i64 a0_3,.int .i64 a0_4,(.slice A0_5 l0_5.length c0_5)] 34 (0,0)))∧Aside0 (Below w.heap.size w wc))
 case first=>
  have H:=HC2.out
  clear HC2
  replace H:=Option.bind_eq_some_iff.mp H
  obtain ⟨t393,A40,H⟩:=H
  replace H:(if t393=true then ((spec_l6In.f a0_2 0 255).bind fun t394=>(if t394=true then ((spec_l6In.f a0_3 0 99).bind fun t395=>(if t395=true then ((spec_l6In.f a0_4 0 9999).bind fun t396=>(spec_BatchValid.j0 k (!t396) a0_0 a0_1 a0_2 a0_3 a0_4 l0_5)) else (spec_BatchValid.j0 k true a0_0 a0_1 a0_2 a0_3 a0_4 l0_5))) else (spec_BatchValid.j0 k true a0_0 a0_1 a0_2 a0_3 a0_4 l0_5))) else (spec_BatchValid.j0 k true a0_0 a0_1 a0_2 a0_3 a0_4 l0_5))=some r:=H
  have A4:=Aside0.mk A40
  clear A40
  by_cases c5:t393=true
  ·subst c5
   have H1:((spec_l6In.f a0_2 0 255).bind fun t394=>(if t394=true then ((spec_l6In.f a0_3 0 99).bind fun t395=>(if t395=true then ((spec_l6In.f a0_4 0 9999).bind fun t396=>(spec_BatchValid.j0 k (!t396) a0_0 a0_1 a0_2 a0_3 a0_4 l0_5)) else (spec_BatchValid.j0 k true a0_0 a0_1 a0_2 a0_3 a0_4 l0_5))) else (spec_BatchValid.j0 k true a0_0 a0_1 a0_2 a0_3 a0_4 l0_5)))=some r:=by rw [if_pos rfl] at H;exact H
   clear H
   have H:=H1
   clear H1
   replace H:=Option.bind_eq_some_iff.mp H
   obtain ⟨t394,A60,H⟩:=H
   replace H:(if t394=true then ((spec_l6In.f a0_3 0 99).bind fun t395=>(if t395=true then ((spec_l6In.f a0_4 0 9999).bind fun t396=>(spec_BatchValid.j0 k (!t396) a0_0 a0_1 a0_2 a0_3 a0_4 l0_5)) else (spec_BatchValid.j0 k true a0_0 a0_1 a0_2 a0_3 a0_4 l0_5))) else (spec_BatchValid.j0 k true a0_0 a0_1 a0_2 a0_3 a0_4 l0_5))=some r:=H
   have A6:=Aside0.mk A60
   clear A60
   by_cases c7:t394=true
   ·subst c7
    have H1:((spec_l6In.f a0_3 0 99).bind fun t395=>(if t395=true then ((spec_l6In.f a0_4 0 9999).bind fun t396=>(spec_BatchValid.j0 k (!t396) a0_0 a0_1 a0_2 a0_3 a0_4 l0_5)) else (spec_BatchValid.j0 k true a0_0 a0_1 a0_2 a0_3 a0_4 l0_5)))=some r:=by rw [if_pos rfl] at H;exact H
    clear H
    have H:=H1
    clear H1
    replace H:=Option.bind_eq_some_iff.mp H
    obtain ⟨t395,A80,H⟩:=H
    replace H:(if t395=true then ((spec_l6In.f a0_4 0 9999).bind fun t396=>(spec_BatchValid.j0 k (!t396) a0_0 a0_1 a0_2 a0_3 a0_4 l0_5)) else (spec_BatchValid.j0 k true a0_0 a0_1 a0_2 a0_3 a0_4 l0_5))=some r:=H
    have A8:=Aside0.mk A80
    clear A80
    by_cases c9:t395=true
    ·subst c9
     have H1:((spec_l6In.f a0_4 0 9999).bind fun t396=>(spec_BatchValid.j0 k (!t396) a0_0 a0_1 a0_2 a0_3 a0_4 l0_5))=some r:=by rw [if_pos rfl] at H;exact H
     clear H
     have H:=H1
     clear H1
     replace H:=Option.bind_eq_some_iff.mp H
     obtain ⟨t396,A100,H⟩:=H
     replace H:(spec_BatchValid.j0 k (!t396) a0_0 a0_1 a0_2 a0_3 a0_4 l0_5)=some r:=H
     have A10:=Aside0.mk A100
     clear A100
     have H':=Aside0.mk H
     clear H
     have hcz11_0:w3.cell? ⟨gb392,0,none⟩=some (.bool a0_0):=(blk_cell BK392.out 0).trans rfl
     have hcz11_1:w3.cell? ⟨gb392,1,none⟩=some (.bool a0_1):=(blk_cell BK392.out 1).trans rfl
     have hcz11_2:w3.cell? ⟨gb392,2,none⟩=some (.int .i64 a0_2):=(blk_cell BK392.out 2).trans rfl
     have hcz11_3:w3.cell? ⟨gb392,3,none⟩=some (.int .i64 a0_3):=(blk_cell BK392.out 3).trans rfl
     have hcz11_4:w3.cell? ⟨gb392,4,none⟩=some (.int .i64 a0_4):=(blk_cell BK392.out 4).trans rfl
     have hcz11_5:w3.cell? ⟨gb392,5,none⟩=some (.slice A0_5 l0_5.length c0_5):=(blk_cell BK392.out 5).trans rfl
     have hfz11_0:=blk_frozen BK392.out 0
     have hfz11_1:=blk_frozen BK392.out 1
     have hfz11_2:=blk_frozen BK392.out 2
     have hfz11_3:=blk_frozen BK392.out 3
     have hfz11_4:=blk_frozen BK392.out 4
     have hfz11_5:=blk_frozen BK392.out 5
     go_wp2_with (first|((with_reducible refine gate_callee (f:=70) rfl ?_);refine goesL_ (some 5) rfl rfl Try.func70 (by kernel_rfl) rfl #[.slice A0_5 l0_5.length c0_5] rfl (by (try simp only [map_toArray,map_cons,map_nil]);first|done|rfl|(simp only [length_drop,length_take];rfl)) ?_;(with_reducible refine (spec_l5Records.calls k _ _ l0_5 true _ ?side1 ?side2 A4.out).mono ?_);(case side1=>repeat (first|exact (Kd.C_below HR0_5.out HB.out)|(with_reducible refine Kd.C_alloc ?_ _)|(with_reducible refine Kd.C_drewN ?_ _)|(with_reducible refine Kd.C_drew ?_)));(case side2=>exact HC0_5.out);rintro e w12 ⟨rfl,hb⟩;refine ⟨_,rfl,?_⟩;have n0_:=Aside0.mk (blk_below (g:=gb392) (o:=.cells #[.bool a0_0,.bool a0_1,.int .i64 a0_2,.int .i64 a0_3,.int .i64 a0_4,.slice A0_5 l0_5.length c0_5] 34 (0,0)) (by (with_reducible repeat (first|refine blk_drewN ?_ _|refine blk_drew ?_|refine blk_alloc ?_ _));exact BK392.out) hb);have n1_:=Aside0.mk (below_step (by repeat (first|(with_reducible first|exact HB.out|apply below_alloc|apply pw_below_drewN|apply below_drew1|refine below_set ?_ GE392.out)|exact HB.out)) hb);clear BK392 HB;have BK392:=n0_;have HB:=n1_;clear n0_ n1_;(try clear hb);(try clear hb2);(try clear hk);(try clear hi);have hcz13_0:w12.cell? ⟨gb392,0,none⟩=some (.bool a0_0):=(blk_cell BK392.out 0).trans rfl;have hcz13_1:w12.cell? ⟨gb392,1,none⟩=some (.bool a0_1):=(blk_cell BK392.out 1).trans rfl;have hcz13_2:w12.cell? ⟨gb392,2,none⟩=some (.int .i64 a0_2):=(blk_cell BK392.out 2).trans rfl;have hcz13_3:w12.cell? ⟨gb392,3,none⟩=some (.int .i64 a0_3):=(blk_cell BK392.out 3).trans rfl;have hcz13_4:w12.cell? ⟨gb392,4,none⟩=some (.int .i64 a0_4):=(blk_cell BK392.out 4).trans rfl;have hcz13_5:w12.cell? ⟨gb392,5,none⟩=some (.slice A0_5 l0_5.length c0_5):=(blk_cell BK392.out 5).trans rfl;have hfz13_0:=blk_frozen BK392.out 0;have hfz13_1:=blk_frozen BK392.out 1;have hfz13_2:=blk_frozen BK392.out 2;have hfz13_3:=blk_frozen BK392.out 3;have hfz13_4:=blk_frozen BK392.out 4;have hfz13_5:=blk_frozen BK392.out 5)|(go_at_call 53;(with_reducible refine (spec_l6In.calls a0_2 0 255 true _ A6.out).mono ?_);rintro e w' ⟨rfl,⟨nd,rfl⟩⟩)|(go_at_call 53;(with_reducible refine (spec_l6In.calls a0_3 0 99 true _ A8.out).mono ?_);rintro e w' ⟨rfl,⟨nd,rfl⟩⟩)|(go_at_call 53;(with_reducible refine (spec_l6In.calls a0_4 0 9999 t396 _ A10.out).mono ?_);rintro e w' ⟨rfl,⟨nd,rfl⟩⟩))
     go_meet
     case rel=>exact ⟨_,(!t396),(by first|rfl|(simp;done)|(simp [*];done)),H',⟨by first|omega|exact Nat.le_refl _⟩,⟨by (with_reducible repeat (first|refine blk_drewN ?_ _|refine blk_drew ?_|refine blk_alloc ?_ _));exact BK392.out⟩,⟨by repeat (first|(with_reducible first|exact HB.out|apply below_alloc|apply pw_below_drewN|apply below_drew1|refine below_set ?_ GE392.out)|exact HB.out)⟩⟩
    ·replace c9:=Bool.eq_false_iff.mpr c9
     subst c9
     have H1:(spec_BatchValid.j0 k true a0_0 a0_1 a0_2 a0_3 a0_4 l0_5)=some r:=by rw [if_neg (show ¬ (false=true) by decide)] at H;exact H
     clear H
     have H:=H1
     clear H1
     have H':=Aside0.mk H
     clear H
     have hcz14_0:w3.cell? ⟨gb392,0,none⟩=some (.bool a0_0):=(blk_cell BK392.out 0).trans rfl
     have hcz14_1:w3.cell? ⟨gb392,1,none⟩=some (.bool a0_1):=(blk_cell BK392.out 1).trans rfl
     have hcz14_2:w3.cell? ⟨gb392,2,none⟩=some (.int .i64 a0_2):=(blk_cell BK392.out 2).trans rfl
     have hcz14_3:w3.cell? ⟨gb392,3,none⟩=some (.int .i64 a0_3):=(blk_cell BK392.out 3).trans rfl
     have hcz14_4:w3.cell? ⟨gb392,4,none⟩=some (.int .i64 a0_4):=(blk_cell BK392.out 4).trans rfl
     have hcz14_5:w3.cell? ⟨gb392,5,none⟩=some (.slice A0_5 l0_5.length c0_5):=(blk_cell BK392.out 5).trans rfl
     have hfz14_0:=blk_frozen BK392.out 0
     have hfz14_1:=blk_frozen BK392.out 1
     have hfz14_2:=blk_frozen BK392.out 2
     have hfz14_3:=blk_frozen BK392.out 3
     have hfz14_4:=blk_frozen BK392.out 4
     have hfz14_5:=blk_frozen BK392.out 5
     go_wp2_with (first|((with_reducible refine gate_callee (f:=70) rfl ?_);refine goesL_ (some 5) rfl rfl Try.func70 (by kernel_rfl) rfl #[.slice A0_5 l0_5.length c0_5] rfl (by (try simp only [map_toArray,map_cons,map_nil]);first|done|rfl|(simp only [length_drop,length_take];rfl)) ?_;(with_reducible refine (spec_l5Records.calls k _ _ l0_5 true _ ?side1 ?side2 A4.out).mono ?_);(case side1=>repeat (first|exact (Kd.C_below HR0_5.out HB.out)|(with_reducible refine Kd.C_alloc ?_ _)|(with_reducible refine Kd.C_drewN ?_ _)|(with_reducible refine Kd.C_drew ?_)));(case side2=>exact HC0_5.out);rintro e w15 ⟨rfl,hb⟩;refine ⟨_,rfl,?_⟩;have n0_:=Aside0.mk (blk_below (g:=gb392) (o:=.cells #[.bool a0_0,.bool a0_1,.int .i64 a0_2,.int .i64 a0_3,.int .i64 a0_4,.slice A0_5 l0_5.length c0_5] 34 (0,0)) (by (with_reducible repeat (first|refine blk_drewN ?_ _|refine blk_drew ?_|refine blk_alloc ?_ _));exact BK392.out) hb);have n1_:=Aside0.mk (below_step (by repeat (first|(with_reducible first|exact HB.out|apply below_alloc|apply pw_below_drewN|apply below_drew1|refine below_set ?_ GE392.out)|exact HB.out)) hb);clear BK392 HB;have BK392:=n0_;have HB:=n1_;clear n0_ n1_;(try clear hb);(try clear hb2);(try clear hk);(try clear hi);have hcz16_0:w15.cell? ⟨gb392,0,none⟩=some (.bool a0_0):=(blk_cell BK392.out 0).trans rfl;have hcz16_1:w15.cell? ⟨gb392,1,none⟩=some (.bool a0_1):=(blk_cell BK392.out 1).trans rfl;have hcz16_2:w15.cell? ⟨gb392,2,none⟩=some (.int .i64 a0_2):=(blk_cell BK392.out 2).trans rfl;have hcz16_3:w15.cell? ⟨gb392,3,none⟩=some (.int .i64 a0_3):=(blk_cell BK392.out 3).trans rfl;have hcz16_4:w15.cell? ⟨gb392,4,none⟩=some (.int .i64 a0_4):=(blk_cell BK392.out 4).trans rfl;have hcz16_5:w15.cell? ⟨gb392,5,none⟩=some (.slice A0_5 l0_5.length c0_5):=(blk_cell BK392.out 5).trans rfl;have hfz16_0:=blk_frozen BK392.out 0;have hfz16_1:=blk_frozen BK392.out 1;have hfz16_2:=blk_frozen BK392.out 2;have hfz16_3:=blk_frozen BK392.out 3;have hfz16_4:=blk_frozen BK392.out 4;have hfz16_5:=blk_frozen BK392.out 5)|(go_at_call 53;(with_reducible refine (spec_l6In.calls a0_2 0 255 true _ A6.out).mono ?_);rintro e w' ⟨rfl,⟨nd,rfl⟩⟩)|(go_at_call 53;(with_reducible refine (spec_l6In.calls a0_3 0 99 false _ A8.out).mono ?_);rintro e w' ⟨rfl,⟨nd,rfl⟩⟩))
     go_meet
     case rel=>exact ⟨_,(true),(by first|rfl|(simp;done)|(simp [*];done)),H',⟨by first|omega|exact Nat.le_refl _⟩,⟨by (with_reducible repeat (first|refine blk_drewN ?_ _|refine blk_drew ?_|refine blk_alloc ?_ _));exact BK392.out⟩,⟨by repeat (first|(with_reducible first|exact HB.out|apply below_alloc|apply pw_below_drewN|apply below_drew1|refine below_set ?_ GE392.out)|exact HB.out)⟩⟩
   ·replace c7:=Bool.eq_false_iff.mpr c7
    subst c7
    have H1:(spec_BatchValid.j0 k true a0_0 a0_1 a0_2 a0_3 a0_4 l0_5)=some r:=by rw [if_neg (show ¬ (false=true) by decide)] at H;exact H
    clear H
    have H:=H1
    clear H1
    have H':=Aside0.mk H
    clear H
    have hcz17_0:w3.cell? ⟨gb392,0,none⟩=some (.bool a0_0):=(blk_cell BK392.out 0).trans rfl
    have hcz17_1:w3.cell? ⟨gb392,1,none⟩=some (.bool a0_1):=(blk_cell BK392.out 1).trans rfl
    have hcz17_2:w3.cell? ⟨gb392,2,none⟩=some (.int .i64 a0_2):=(blk_cell BK392.out 2).trans rfl
    have hcz17_3:w3.cell? ⟨gb392,3,none⟩=some (.int .i64 a0_3):=(blk_cell BK392.out 3).trans rfl
    have hcz17_4:w3.cell? ⟨gb392,4,none⟩=some (.int .i64 a0_4):=(blk_cell BK392.out 4).trans rfl
    have hcz17_5:w3.cell? ⟨gb392,5,none⟩=some (.slice A0_5 l0_5.length c0_5):=(blk_cell BK392.out 5).trans rfl
    have hfz17_0:=blk_frozen BK392.out 0
    have hfz17_1:=blk_frozen BK392.out 1
    have hfz17_2:=blk_frozen BK392.out 2
    have hfz17_3:=blk_frozen BK392.out 3
    have hfz17_4:=blk_frozen BK392.out 4
    have hfz17_5:=blk_frozen BK392.out 5
    go_wp2_with (first|((with_reducible refine gate_callee (f:=70) rfl ?_);refine goesL_ (some 5) rfl rfl Try.func70 (by kernel_rfl) rfl #[.slice A0_5 l0_5.length c0_5] rfl (by (try simp only [map_toArray,map_cons,map_nil]);first|done|rfl|(simp only [length_drop,length_take];rfl)) ?_;(with_reducible refine (spec_l5Records.calls k _ _ l0_5 true _ ?side1 ?side2 A4.out).mono ?_);(case side1=>repeat (first|exact (Kd.C_below HR0_5.out HB.out)|(with_reducible refine Kd.C_alloc ?_ _)|(with_reducible refine Kd.C_drewN ?_ _)|(with_reducible refine Kd.C_drew ?_)));(case side2=>exact HC0_5.out);rintro e w18 ⟨rfl,hb⟩;refine ⟨_,rfl,?_⟩;have n0_:=Aside0.mk (blk_below (g:=gb392) (o:=.cells #[.bool a0_0,.bool a0_1,.int .i64 a0_2,.int .i64 a0_3,.int .i64 a0_4,.slice A0_5 l0_5.length c0_5] 34 (0,0)) (by (with_reducible repeat (first|refine blk_drewN ?_ _|refine blk_drew ?_|refine blk_alloc ?_ _));exact BK392.out) hb);have n1_:=Aside0.mk (below_step (by repeat (first|(with_reducible first|exact HB.out|apply below_alloc|apply pw_below_drewN|apply below_drew1|refine below_set ?_ GE392.out)|exact HB.out)) hb);clear BK392 HB;have BK392:=n0_;have HB:=n1_;clear n0_ n1_;(try clear hb);(try clear hb2);(try clear hk);(try clear hi);have hcz19_0:w18.cell? ⟨gb392,0,none⟩=some (.bool a0_0):=(blk_cell BK392.out 0).trans rfl;have hcz19_1:w18.cell? ⟨gb392,1,none⟩=some (.bool a0_1):=(blk_cell BK392.out 1).trans rfl;have hcz19_2:w18.cell? ⟨gb392,2,none⟩=some (.int .i64 a0_2):=(blk_cell BK392.out 2).trans rfl;have hcz19_3:w18.cell? ⟨gb392,3,none⟩=some (.int .i64 a0_3):=(blk_cell BK392.out 3).trans rfl;have hcz19_4:w18.cell? ⟨gb392,4,none⟩=some (.int .i64 a0_4):=(blk_cell BK392.out 4).trans rfl;have hcz19_5:w18.cell? ⟨gb392,5,none⟩=some (.slice A0_5 l0_5.length c0_5):=(blk_cell BK392.out 5).trans rfl;have hfz19_0:=blk_frozen BK392.out 0;have hfz19_1:=blk_frozen BK392.out 1;have hfz19_2:=blk_frozen BK392.out 2;have hfz19_3:=blk_frozen BK392.out 3;have hfz19_4:=blk_frozen BK392.out 4;have hfz19_5:=blk_frozen BK392.out 5)|(go_at_call 53;(with_reducible refine (spec_l6In.calls a0_2 0 255 false _ A6.out).mono ?_);rintro e w' ⟨rfl,⟨nd,rfl⟩⟩))
    go_meet
    case rel=>exact ⟨_,(true),(by first|rfl|(simp;done)|(simp [*];done)),H',⟨by first|omega|exact Nat.le_refl _⟩,⟨by (with_reducible repeat (first|refine blk_drewN ?_ _|refine blk_drew ?_|refine blk_alloc ?_ _));exact BK392.out⟩,⟨by repeat (first|(with_reducible first|exact HB.out|apply below_alloc|apply pw_below_drewN|apply below_drew1|refine below_set ?_ GE392.out)|exact HB.out)⟩⟩
  ·replace c5:=Bool.eq_false_iff.mpr c5
   subst c5
   have H1:(spec_BatchValid.j0 k true a0_0 a0_1 a0_2 a0_3 a0_4 l0_5)=some r:=by rw [if_neg (show ¬ (false=true) by decide)] at H;exact H
   clear H
   have H:=H1
   clear H1
   have H':=Aside0.mk H
   clear H
   have hcz20_0:w3.cell? ⟨gb392,0,none⟩=some (.bool a0_0):=(blk_cell BK392.out 0).trans rfl
   have hcz20_1:w3.cell? ⟨gb392,1,none⟩=some (.bool a0_1):=(blk_cell BK392.out 1).trans rfl
   have hcz20_2:w3.cell? ⟨gb392,2,none⟩=some (.int .i64 a0_2):=(blk_cell BK392.out 2).trans rfl
   have hcz20_3:w3.cell? ⟨gb392,3,none⟩=some (.int .i64 a0_3):=(blk_cell BK392.out 3).trans rfl
   have hcz20_4:w3.cell? ⟨gb392,4,none⟩=some (.int .i64 a0_4):=(blk_cell BK392.out 4).trans rfl
   have hcz20_5:w3.cell? ⟨gb392,5,none⟩=some (.slice A0_5 l0_5.length c0_5):=(blk_cell BK392.out 5).trans rfl
   have hfz20_0:=blk_frozen BK392.out 0
   have hfz20_1:=blk_frozen BK392.out 1
   have hfz20_2:=blk_frozen BK392.out 2
   have hfz20_3:=blk_frozen BK392.out 3
   have hfz20_4:=blk_frozen BK392.out 4
   have hfz20_5:=blk_frozen BK392.out 5
   go_wp2_with (first|((with_reducible refine gate_callee (f:=70) rfl ?_);refine goesL_ (some 5) rfl rfl Try.func70 (by kernel_rfl) rfl #[.slice A0_5 l0_5.length c0_5] rfl (by (try simp only [map_toArray,map_cons,map_nil]);first|done|rfl|(simp only [length_drop,length_take];rfl)) ?_;(with_reducible refine (spec_l5Records.calls k _ _ l0_5 false _ ?side1 ?side2 A4.out).mono ?_);(case side1=>repeat (first|exact (Kd.C_below HR0_5.out HB.out)|(with_reducible refine Kd.C_alloc ?_ _)|(with_reducible refine Kd.C_drewN ?_ _)|(with_reducible refine Kd.C_drew ?_)));(case side2=>exact HC0_5.out);rintro e w21 ⟨rfl,hb⟩;refine ⟨_,rfl,?_⟩;have n0_:=Aside0.mk (blk_below (g:=gb392) (o:=.cells #[.bool a0_0,.bool a0_1,.int .i64 a0_2,.int .i64 a0_3,.int .i64 a0_4,.slice A0_5 l0_5.length c0_5] 34 (0,0)) (by (with_reducible repeat (first|refine blk_drewN ?_ _|refine blk_drew ?_|refine blk_alloc ?_ _));exact BK392.out) hb);have n1_:=Aside0.mk (below_step (by repeat (first|(with_reducible first|exact HB.out|apply below_alloc|apply pw_below_drewN|apply below_drew1|refine below_set ?_ GE392.out)|exact HB.out)) hb);clear BK392 HB;have BK392:=n0_;have HB:=n1_;clear n0_ n1_;(try clear hb);(try clear hb2);(try clear hk);(try clear hi)))
   go_meet
   case rel=>exact ⟨_,(true),(by first|rfl|(simp;done)|(simp [*];done)),H',⟨by first|omega|exact Nat.le_refl _⟩,⟨by (with_reducible repeat (first|refine blk_drewN ?_ _|refine blk_drew ?_|refine blk_alloc ?_ _));exact BK392.out⟩,⟨by repeat (first|(with_reducible first|exact HB.out|apply below_alloc|apply pw_below_drewN|apply below_drew1|refine below_set ?_ GE392.out)|exact HB.out)⟩⟩
 case rest=>
  clear HC2
  try clear p2
  try clear c5
  try clear c7
  try clear c9
  try clear hcz11_0
  try clear hcz11_1
  try clear hcz11_2
  try clear hcz11_3
  try clear hcz11_4
  try clear hcz11_5
  try clear hcz13_0
  try clear hcz13_1
  try clear hcz13_2
  try clear hcz13_3
  try clear hcz13_4
  try clear hcz13_5
  try clear hcz14_0
  try clear hcz14_1
  try clear hcz14_2
  try clear hcz14_3
  try clear hcz14_4
  try clear hcz14_5
  try clear hcz16_0
  try clear hcz16_1
  try clear hcz16_2
  try clear hcz16_3
  try clear hcz16_4
  try clear hcz16_5
  try clear hcz17_0
  try clear hcz17_1
  try clear hcz17_2
  try clear hcz17_3
  try clear hcz17_4
  try clear hcz17_5
  try clear hcz19_0
  try clear hcz19_1
  try clear hcz19_2
  try clear hcz19_3
  try clear hcz19_4
  try clear hcz19_5
  try clear hcz20_0
  try clear hcz20_1
  try clear hcz20_2
  try clear hcz20_3
  try clear hcz20_4
  try clear hcz20_5
  try clear hfz11_0
  try clear hfz11_1
  try clear hfz11_2
  try clear hfz11_3
  try clear hfz11_4
  try clear hfz11_5
  try clear hfz13_0
  try clear hfz13_1
  try clear hfz13_2
  try clear hfz13_3
  try clear hfz13_4
  try clear hfz13_5
  try clear hfz14_0
  try clear hfz14_1
  try clear hfz14_2
  try clear hfz14_3
  try clear hfz14_4
  try clear hfz14_5
  try clear hfz16_0
  try clear hfz16_1
  try clear hfz16_2
  try clear hfz16_3
  try clear hfz16_4
  try clear hfz16_5
  try clear hfz17_0
  try clear hfz17_1
  try clear hfz17_2
  try clear hfz17_3
  try clear hfz17_4
  try clear hfz17_5
  try clear hfz19_0
  try clear hfz19_1
  try clear hfz19_2
  try clear hfz19_3
  try clear hfz19_4
  try clear hfz19_5
  try clear hfz20_0
  try clear hfz20_1
  try clear hfz20_2
  try clear hfz20_3
  try clear hfz20_4
  try clear hfz20_5
  obtain ⟨kq,x24_1,rfl,HA,HJ1,BK392,HB⟩:=hcut
  cases kq with
  | zero=>exact absurd HA.out (by simp [spec_BatchValid.j0])
  | succ kj1=>
   have H:=HA.out
   clear HA
   simp only [spec_BatchValid.j0] at H
   by_cases c22:x24_1=true
   ·subst c22
    have H1:(some false)=some r:=by rw [if_pos rfl] at H;exact H
    clear H
    have H:=H1
    clear H1
    obtain rfl:=Option.some.inj H
    go_wp2
    go_ret
    exact ⟨by first|rfl|(simp [errW_none,errW_some] <;> rfl)|(simp [*,errW_none,errW_some] <;> rfl),by repeat (first|(with_reducible first|exact HB.out|apply below_alloc|apply pw_below_drewN|apply below_drew1|refine below_set ?_ GE392.out)|exact HB.out)⟩
   ·replace c22:=Bool.eq_false_iff.mpr c22
    subst c22
    have H1:(if a0_2=255 then (if a0_3=0 then (if a0_4=0 then (some (!a0_1)) else (some false)) else (some false)) else (if a0_1=true then (some ((l0_5.length:Int) == 1)) else (some true)))=some r:=by rw [if_neg (show ¬ (false=true) by decide)] at H;exact H
    clear H
    have H:=H1
    clear H1
    by_cases c23:a0_2=255
    ·rw [if_pos c23] at H
     have c23b0:(a0_2 == 255)=true:=beq_iff_eq.mpr c23
     have c23b1:(a0_2 != 255)=false:=bne_eq_false_iff_eq.mpr c23
     clear c23
     by_cases c24:a0_3=0
     ·rw [if_pos c24] at H
      have c24b0:(a0_3 == 0)=true:=beq_iff_eq.mpr c24
      have c24b1:(a0_3 != 0)=false:=bne_eq_false_iff_eq.mpr c24
      clear c24
      by_cases c25:a0_4=0
      ·rw [if_pos c25] at H
       have c25b0:(a0_4 == 0)=true:=beq_iff_eq.mpr c25
       have c25b1:(a0_4 != 0)=false:=bne_eq_false_iff_eq.mpr c25
       clear c25
       obtain rfl:=Option.some.inj H
       have hcz26_0:wc.cell? ⟨gb392,0,none⟩=some (.bool a0_0):=(blk_cell BK392.out 0).trans rfl
       have hcz26_1:wc.cell? ⟨gb392,1,none⟩=some (.bool a0_1):=(blk_cell BK392.out 1).trans rfl
       have hcz26_2:wc.cell? ⟨gb392,2,none⟩=some (.int .i64 a0_2):=(blk_cell BK392.out 2).trans rfl
       have hcz26_3:wc.cell? ⟨gb392,3,none⟩=some (.int .i64 a0_3):=(blk_cell BK392.out 3).trans rfl
       have hcz26_4:wc.cell? ⟨gb392,4,none⟩=some (.int .i64 a0_4):=(blk_cell BK392.out 4).trans rfl
       have hcz26_5:wc.cell? ⟨gb392,5,none⟩=some (.slice A0_5 l0_5.length c0_5):=(blk_cell BK392.out 5).trans rfl
       have hfz26_0:=blk_frozen BK392.out 0
       have hfz26_1:=blk_frozen BK392.out 1
       have hfz26_2:=blk_frozen BK392.out 2
       have hfz26_3:=blk_frozen BK392.out 3
       have hfz26_4:=blk_frozen BK392.out 4
       have hfz26_5:=blk_frozen BK392.out 5
       go_wp2
       go_ret
       exact ⟨by first|rfl|(simp [errW_none,errW_some] <;> rfl)|(simp [*,errW_none,errW_some] <;> rfl),by repeat (first|(with_reducible first|exact HB.out|apply below_alloc|apply pw_below_drewN|apply below_drew1|refine below_set ?_ GE392.out)|exact HB.out)⟩
      ·rw [if_neg c25] at H
       have c25b0:(a0_4 == 0)=false:=beq_eq_false_iff_ne.mpr c25
       have c25b1:(a0_4 != 0)=true:=bne_iff_ne.mpr c25
       obtain rfl:=Option.some.inj H
       have hcz27_0:wc.cell? ⟨gb392,0,none⟩=some (.bool a0_0):=(blk_cell BK392.out 0).trans rfl
       have hcz27_1:wc.cell? ⟨gb392,1,none⟩=some (.bool a0_1):=(blk_cell BK392.out 1).trans rfl
       have hcz27_2:wc.cell? ⟨gb392,2,none⟩=some (.int .i64 a0_2):=(blk_cell BK392.out 2).trans rfl
       have hcz27_3:wc.cell? ⟨gb392,3,none⟩=some (.int .i64 a0_3):=(blk_cell BK392.out 3).trans rfl
       have hcz27_4:wc.cell? ⟨gb392,4,none⟩=some (.int .i64 a0_4):=(blk_cell BK392.out 4).trans rfl
       have hcz27_5:wc.cell? ⟨gb392,5,none⟩=some (.slice A0_5 l0_5.length c0_5):=(blk_cell BK392.out 5).trans rfl
       have hfz27_0:=blk_frozen BK392.out 0
       have hfz27_1:=blk_frozen BK392.out 1
       have hfz27_2:=blk_frozen BK392.out 2
       have hfz27_3:=blk_frozen BK392.out 3
       have hfz27_4:=blk_frozen BK392.out 4
       have hfz27_5:=blk_frozen BK392.out 5
       go_wp2
       go_ret
       exact ⟨by first|rfl|(simp [errW_none,errW_some] <;> rfl)|(simp [*,errW_none,errW_some] <;> rfl),by repeat (first|(with_reducible first|exact HB.out|apply below_alloc|apply pw_below_drewN|apply below_drew1|refine below_set ?_ GE392.out)|exact HB.out)⟩
     ·rw [if_neg c24] at H
      have c24b0:(a0_3 == 0)=false:=beq_eq_false_iff_ne.mpr c24
      have c24b1:(a0_3 != 0)=true:=bne_iff_ne.mpr c24
      obtain rfl:=Option.some.inj H
      have hcz28_0:wc.cell? ⟨gb392,0,none⟩=some (.bool a0_0):=(blk_cell BK392.out 0).trans rfl
      have hcz28_1:wc.cell? ⟨gb392,1,none⟩=some (.bool a0_1):=(blk_cell BK392.out 1).trans rfl
      have hcz28_2:wc.cell? ⟨gb392,2,none⟩=some (.int .i64 a0_2):=(blk_cell BK392.out 2).trans rfl
      have hcz28_3:wc.cell? ⟨gb392,3,none⟩=some (.int .i64 a0_3):=(blk_cell BK392.out 3).trans rfl
      have hcz28_4:wc.cell? ⟨gb392,4,none⟩=some (.int .i64 a0_4):=(blk_cell BK392.out 4).trans rfl
      have hcz28_5:wc.cell? ⟨gb392,5,none⟩=some (.slice A0_5 l0_5.length c0_5):=(blk_cell BK392.out 5).trans rfl
      have hfz28_0:=blk_frozen BK392.out 0
      have hfz28_1:=blk_frozen BK392.out 1
      have hfz28_2:=blk_frozen BK392.out 2
      have hfz28_3:=blk_frozen BK392.out 3
      have hfz28_4:=blk_frozen BK392.out 4
      have hfz28_5:=blk_frozen BK392.out 5
      go_wp2
      go_ret
      exact ⟨by first|rfl|(simp [errW_none,errW_some] <;> rfl)|(simp [*,errW_none,errW_some] <;> rfl),by repeat (first|(with_reducible first|exact HB.out|apply below_alloc|apply pw_below_drewN|apply below_drew1|refine below_set ?_ GE392.out)|exact HB.out)⟩
    ·rw [if_neg c23] at H
     have c23b0:(a0_2 == 255)=false:=beq_eq_false_iff_ne.mpr c23
     have c23b1:(a0_2 != 255)=true:=bne_iff_ne.mpr c23
     by_cases c29:a0_1=true
     ·subst c29
      have H1:(some ((l0_5.length:Int) == 1))=some r:=by rw [if_pos rfl] at H;exact H
      clear H
      have H:=H1
      clear H1
      obtain rfl:=Option.some.inj H
      have hcz30_0:wc.cell? ⟨gb392,0,none⟩=some (.bool a0_0):=(blk_cell BK392.out 0).trans rfl
      have hcz30_1:wc.cell? ⟨gb392,1,none⟩=some (.bool true):=(blk_cell BK392.out 1).trans rfl
      have hcz30_2:wc.cell? ⟨gb392,2,none⟩=some (.int .i64 a0_2):=(blk_cell BK392.out 2).trans rfl
      have hcz30_3:wc.cell? ⟨gb392,3,none⟩=some (.int .i64 a0_3):=(blk_cell BK392.out 3).trans rfl
      have hcz30_4:wc.cell? ⟨gb392,4,none⟩=some (.int .i64 a0_4):=(blk_cell BK392.out 4).trans rfl
      have hcz30_5:wc.cell? ⟨gb392,5,none⟩=some (.slice A0_5 l0_5.length c0_5):=(blk_cell BK392.out 5).trans rfl
      have hfz30_0:=blk_frozen BK392.out 0
      have hfz30_1:=blk_frozen BK392.out 1
      have hfz30_2:=blk_frozen BK392.out 2
      have hfz30_3:=blk_frozen BK392.out 3
      have hfz30_4:=blk_frozen BK392.out 4
      have hfz30_5:=blk_frozen BK392.out 5
      go_wp2
      go_ret
      exact ⟨by first|rfl|(simp [errW_none,errW_some] <;> rfl)|(simp [*,errW_none,errW_some] <;> rfl),by repeat (first|(with_reducible first|exact HB.out|apply below_alloc|apply pw_below_drewN|apply below_drew1|refine below_set ?_ GE392.out)|exact HB.out)⟩
     ·replace c29:=Bool.eq_false_iff.mpr c29
      subst c29
      have H1:(some true)=some r:=by rw [if_neg (show ¬ (false=true) by decide)] at H;exact H
      clear H
      have H:=H1
      clear H1
      obtain rfl:=Option.some.inj H
      have hcz31_0:wc.cell? ⟨gb392,0,none⟩=some (.bool a0_0):=(blk_cell BK392.out 0).trans rfl
      have hcz31_1:wc.cell? ⟨gb392,1,none⟩=some (.bool false):=(blk_cell BK392.out 1).trans rfl
      have hcz31_2:wc.cell? ⟨gb392,2,none⟩=some (.int .i64 a0_2):=(blk_cell BK392.out 2).trans rfl
      have hcz31_3:wc.cell? ⟨gb392,3,none⟩=some (.int .i64 a0_3):=(blk_cell BK392.out 3).trans rfl
      have hcz31_4:wc.cell? ⟨gb392,4,none⟩=some (.int .i64 a0_4):=(blk_cell BK392.out 4).trans rfl
      have hcz31_5:wc.cell? ⟨gb392,5,none⟩=some (.slice A0_5 l0_5.length c0_5):=(blk_cell BK392.out 5).trans rfl
      have hfz31_0:=blk_frozen BK392.out 0
      have hfz31_1:=blk_frozen BK392.out 1
      have hfz31_2:=blk_frozen BK392.out 2
      have hfz31_3:=blk_frozen BK392.out 3
      have hfz31_4:=blk_frozen BK392.out 4
      have hfz31_5:=blk_frozen BK392.out 5
      go_wp2
      go_ret
      exact ⟨by first|rfl|(simp [errW_none,errW_some] <;> rfl)|(simp [*,errW_none,errW_some] <;> rfl),by repeat (first|(with_reducible first|exact HB.out|apply below_alloc|apply pw_below_drewN|apply below_drew1|refine below_set ?_ GE392.out)|exact HB.out)⟩
end Go.Proofs.Ytkhmopmfbocokaa.T
namespace Go.Proofs.Ytkhmopmfbocokaa.T
open Go.RowKit Go.Proofs.YtkhmopmfbocokaaW.PrintWords Go.Proofs.YtkhmopmfbocokaaW.PrintLast Go.Proofs.YtkhmopmfbocokaaW.PrintMore
attribute [local go_sem] max2_int max_two
set_option linter.unusedVariables false
set_option linter.unusedSimpArgs false
def spec_l21At.l0:Nat→List (S39)→Int→Int→Option (Int)
 | 0,_,_,_=>none
 | k+1,x0,x1,x5=>if x5 < (x0.length:Int) then (if 0 ≤ x5 then (if ((rd_T39 x0 x5).f0)=x1 then (some x5) else (spec_l21At.l0 k x0 x1 (wrap64 (x5+1)))) else (none)) else (some (-1))
def spec_l21At.f (k:Nat) (l0:List (S39)) (a1:Int):Option (Int):=spec_l21At.l0 k l0 a1 0
set_option maxHeartbeats 8000000 in
set_option maxRecDepth 100000 in
theorem spec_l21At.calls (k:Nat) (A0:Option Addr) (c0:Nat) (l0:List (S39)) (a1:Int) (r:Int) (w:World) (hr0:Kd.C k39 w A0 l0.length l0) (hc0:l0.length ≤ c0) (h:spec_l21At.f k l0 a1=some r) :
  Calls Try.prog 71 #[.slice A0 l0.length c0,.int .i64 a1] w fun e w'=>e = .returned (.int .i64 r)∧Drawn0 w w':=by
 have HR0:=Aside0.mk hr0
 have HC0:=Aside0.mk hc0
 clear hr0 hc0
 have H:(spec_l21At.l0 k l0 a1 0)=some r:=h
 clear h
 have H':=Aside0.mk H
 clear H
 go_enter Try.func71,Try.ntmps71
 go_wp2
 go_loopg [5] k (fun kq v5 w'=>∃ (x5_1:Int),v5 = .int .i64 x5_1∧Aside0 (spec_l21At.l0 kq l0 a1 x5_1=some r)∧Aside0 (kq ≤ k)∧Drawn0 w w')
 case atStart=>exact ⟨(0),(by first|rfl|(simp;done)|(simp [*];done)),H',⟨Nat.le_refl _⟩,by repeat (first|exact Drawn0.refl _|apply Drawn0.step)⟩
 case round=>
  clear H'
  try clear p2
  obtain ⟨x5_1,rfl,HA,HK1,⟨m1,rfl⟩⟩:=hrel
  cases gk with
  | zero=>exact absurd HA.out (by simp [spec_l21At.l0])
  | succ k1=>
   have H:=HA.out
   clear HA
   simp only [spec_l21At.l0] at H
   by_cases c3:x5_1 < (l0.length:Int)
   ·rw [if_pos c3] at H
    have c3b0:decide (x5_1 < (l0.length:Int))=true:=decide_eq_true c3
    clear c3
    by_cases c4 : 0 ≤ x5_1
    ·rw [if_pos c4] at H
     have c4b0:decide (0 ≤ x5_1)=true:=decide_eq_true c4
     clear c4
     by_cases c5:((rd_T39 l0 x5_1).f0)=a1
     ·rw [if_pos c5] at H
      have c5b0:(((rd_T39 l0 x5_1).f0) == a1)=true:=beq_iff_eq.mpr c5
      have c5b1:(((rd_T39 l0 x5_1).f0) != a1)=false:=bne_eq_false_iff_eq.mpr c5
      clear c5
      obtain rfl:=Option.some.inj H
      have p397 : 0 ≤ (x5_1:Int):=of_decide_eq_true (by first|(with_reducible assumption)|assumption)
      have q397:x5_1 < (l0.length:Int):=of_decide_eq_true (by first|(with_reducible assumption)|assumption)
      obtain ⟨ad397,e397,hx397_0,hx397_1,hx397_2⟩:=at_T39 HR0.out x5_1 p397 q397
      cases e397
      replace p397:=eq_true p397
      replace q397:=eq_true q397
      go_wp2
      go_ret
      exact ⟨by first|rfl|(simp;done)|(simp [*];done),by repeat (first|exact Drawn0.refl _|apply Drawn0.step)⟩
     ·rw [if_neg c5] at H
      have c5b0:(((rd_T39 l0 x5_1).f0) == a1)=false:=beq_eq_false_iff_ne.mpr c5
      have c5b1:(((rd_T39 l0 x5_1).f0) != a1)=true:=bne_iff_ne.mpr c5
      have H':=Aside0.mk H
      clear H
      have p397 : 0 ≤ (x5_1:Int):=of_decide_eq_true (by first|(with_reducible assumption)|assumption)
      have q397:x5_1 < (l0.length:Int):=of_decide_eq_true (by first|(with_reducible assumption)|assumption)
      obtain ⟨ad397,e397,hx397_0,hx397_1,hx397_2⟩:=at_T39 HR0.out x5_1 p397 q397
      cases e397
      replace p397:=eq_true p397
      replace q397:=eq_true q397
      go_wp2
      go_roundg k1
      case measure=>have:=HK1.out;omega
      case rel=>exact ⟨(wrap64 (x5_1+1)),(by first|rfl|(simp;done)|(simp [*];done)),H',⟨by have:=HK1.out;omega⟩,by repeat (first|exact Drawn0.refl _|apply Drawn0.step)⟩
    ·rw [if_neg c4] at H
     exact absurd H (by simp)
   ·rw [if_neg c3] at H
    have c3b0:decide (x5_1 < (l0.length:Int))=false:=decide_eq_false c3
    clear c3
    obtain rfl:=Option.some.inj H
    go_wp2
    go_ret
    exact ⟨by first|rfl|(simp;done)|(simp [*];done),by repeat (first|exact Drawn0.refl _|apply Drawn0.step)⟩
end Go.Proofs.Ytkhmopmfbocokaa.T
namespace Go.Proofs.Ytkhmopmfbocokaa.T
open Go.RowKit Go.Proofs.YtkhmopmfbocokaaW.PrintWords Go.Proofs.YtkhmopmfbocokaaW.PrintLast Go.Proofs.YtkhmopmfbocokaaW.PrintMore
attribute [local go_sem] max2_int max_two
set_option linter.unusedVariables false
set_option linter.unusedSimpArgs false
def spec_l21Check.j0:Nat→Int→Bool→Bool→Int→Int→Int→List (S79)→Option (Int)
 | 0,_,_,_,_,_,_,_=>none
 | k+1,x6,x399000,x399001,x399002,x399003,x399004,x399005=>if x399004 < x6 then (some 1) else (if x399004 > x6 then (some 2) else (some 0))
def spec_l21Check.f (k:Nat) (l0:List (S39)) (a1_0:Bool) (a1_1:Bool) (a1_2:Int) (a1_3:Int) (a1_4:Int) (l1_5:List (S79)):Option (Int):=if a1_2=255 then (some 4) else ((spec_l21At.f k l0 a1_2).bind fun t399=>(if t399 ≥ 0 then (if 0 ≤ t399 then (if t399 < (l0.length:Int) then (if a1_3 < ((rd_T39 l0 t399).f1) then (some 3) else (if a1_3=((rd_T39 l0 t399).f1) then (spec_l21Check.j0 k ((rd_T39 l0 t399).f2) a1_0 a1_1 a1_2 a1_3 a1_4 l1_5) else (spec_l21Check.j0 k 0 a1_0 a1_1 a1_2 a1_3 a1_4 l1_5))) else (none)) else (none)) else (spec_l21Check.j0 k 0 a1_0 a1_1 a1_2 a1_3 a1_4 l1_5)))
set_option maxHeartbeats 8000000 in
set_option maxRecDepth 100000 in
theorem spec_l21Check.calls (k:Nat) (A0:Option Addr) (c0:Nat) (l0:List (S39)) (a1_0:Bool) (a1_1:Bool) (a1_2:Int) (a1_3:Int) (a1_4:Int) (A1_5:Option Addr) (c1_5:Nat) (l1_5:List (S79)) (r:Int) (w:World) (hr0:Kd.C k39 w A0 l0.length l0) (hc0:l0.length ≤ c0) (hr1_5:Kd.C k79 w A1_5 l1_5.length l1_5) (hc1_5:l1_5.length ≤ c1_5) (h:spec_l21Check.f k l0 a1_0 a1_1 a1_2 a1_3 a1_4 l1_5=some r) :
  Calls Try.prog 60 #[.slice A0 l0.length c0,.agg #[.bool a1_0,.bool a1_1,.int .i64 a1_2,.int .i64 a1_3,.int .i64 a1_4,.slice A1_5 l1_5.length c1_5]] w fun e w'=>e = .returned (.int .i64 r)∧Below w.heap.size w w':=by
 have hu34:=Try.underlying34
 have HR0:=Aside0.mk hr0
 have HC0:=Aside0.mk hc0
 clear hr0 hc0
 have HR1_5:=Aside0.mk hr1_5
 have HC1_5:=Aside0.mk hc1_5
 clear hr1_5 hc1_5
 have HB:=Aside0.mk (Below.refl w.heap.size w)
 have H:(if a1_2=255 then (some 4) else ((spec_l21At.f k l0 a1_2).bind fun t399=>(if t399 ≥ 0 then (if 0 ≤ t399 then (if t399 < (l0.length:Int) then (if a1_3 < ((rd_T39 l0 t399).f1) then (some 3) else (if a1_3=((rd_T39 l0 t399).f1) then (spec_l21Check.j0 k ((rd_T39 l0 t399).f2) a1_0 a1_1 a1_2 a1_3 a1_4 l1_5) else (spec_l21Check.j0 k 0 a1_0 a1_1 a1_2 a1_3 a1_4 l1_5))) else (none)) else (none)) else (spec_l21Check.j0 k 0 a1_0 a1_1 a1_2 a1_3 a1_4 l1_5))))=some r:=h
 clear h
 by_cases c3:a1_2=255
 ·rw [if_pos c3] at H
  have c3b0:(a1_2 == 255)=true:=beq_iff_eq.mpr c3
  have c3b1:(a1_2 != 255)=false:=bne_eq_false_iff_eq.mpr c3
  clear c3
  obtain rfl:=Option.some.inj H
  go_enter Try.func60,Try.ntmps60
  go_wp2_with (first|((with_reducible refine gate_dst (N:=3) rfl ?_);refine box_event ?hg (N:=3) ?hd (cs:=#[.bool a1_0,.bool a1_1,.int .i64 a1_2,.int .i64 a1_3,.int .i64 a1_4,.slice A1_5 l1_5.length c1_5]) (t:=34) ?hr ?_;(case hd=>rfl);(case hg=>rfl);(case hr=>first|(go_simp;done)|(go_simp;rfl));intro gb398 hg w4 hbox hb;have n0_:=Aside0.mk (below_step (by repeat (first|(with_reducible first|exact HB.out|apply below_alloc|apply pw_below_drewN|apply below_drew1)|exact HB.out)) hb);have n1_:=Aside0.mk (hbox);have n2_:=Aside0.mk ((by rw [hg];exact (below_size (by repeat (first|(with_reducible first|exact HB.out|apply below_alloc|apply pw_below_drewN|apply below_drew1)|exact HB.out))):w.heap.size ≤ gb398));have n3_:=Aside0.mk ((by rw [hg];exact (below_size (by repeat (first|(with_reducible first|exact HB.out|apply below_alloc|apply pw_below_drewN|apply below_drew1)|exact HB.out))):w.heap.size ≤ gb398));clear HB;have HB:=n0_;have BK398:=n1_;have GW398:=n2_;have GE398:=n3_;clear n0_ n1_ n2_ n3_;clear hb hbox hg;have hcz5_0:w4.cell? ⟨gb398,0,none⟩=some (.bool a1_0):=(blk_cell BK398.out 0).trans rfl;have hcz5_1:w4.cell? ⟨gb398,1,none⟩=some (.bool a1_1):=(blk_cell BK398.out 1).trans rfl;have hcz5_2:w4.cell? ⟨gb398,2,none⟩=some (.int .i64 a1_2):=(blk_cell BK398.out 2).trans rfl;have hcz5_3:w4.cell? ⟨gb398,3,none⟩=some (.int .i64 a1_3):=(blk_cell BK398.out 3).trans rfl;have hcz5_4:w4.cell? ⟨gb398,4,none⟩=some (.int .i64 a1_4):=(blk_cell BK398.out 4).trans rfl;have hcz5_5:w4.cell? ⟨gb398,5,none⟩=some (.slice A1_5 l1_5.length c1_5):=(blk_cell BK398.out 5).trans rfl;have hfz5_0:=blk_frozen BK398.out 0;have hfz5_1:=blk_frozen BK398.out 1;have hfz5_2:=blk_frozen BK398.out 2;have hfz5_3:=blk_frozen BK398.out 3;have hfz5_4:=blk_frozen BK398.out 4;have hfz5_5:=blk_frozen BK398.out 5))
  repeat (go_quiet (first|((with_reducible refine gate_dst (N:=3) rfl ?_);refine box_event ?hg (N:=3) ?hd (cs:=#[.bool a1_0,.bool a1_1,.int .i64 a1_2,.int .i64 a1_3,.int .i64 a1_4,.slice A1_5 l1_5.length c1_5]) (t:=34) ?hr ?_;(case hd=>rfl);(case hg=>rfl);(case hr=>first|(go_simp;done)|(go_simp;rfl));intro gb398 hg w4 hbox hb;have n0_:=Aside0.mk (below_step (by repeat (first|(with_reducible first|exact HB.out|apply below_alloc|apply pw_below_drewN|apply below_drew1)|exact HB.out)) hb);have n1_:=Aside0.mk (hbox);have n2_:=Aside0.mk ((by rw [hg];exact (below_size (by repeat (first|(with_reducible first|exact HB.out|apply below_alloc|apply pw_below_drewN|apply below_drew1)|exact HB.out))):w.heap.size ≤ gb398));have n3_:=Aside0.mk ((by rw [hg];exact (below_size (by repeat (first|(with_reducible first|exact HB.out|apply below_alloc|apply pw_below_drewN|apply below_drew1)|exact HB.out))):w.heap.size ≤ gb398));clear HB;have HB:=n0_;have BK398:=n1_;have GW398:=n2_;have GE398:=n3_;clear n0_ n1_ n2_ n3_;clear hb hbox hg;have hcz5_0:w4.cell? ⟨gb398,0,none⟩=some (.bool a1_0):=(blk_cell BK398.out 0).trans rfl;have hcz5_1:w4.cell? ⟨gb398,1,none⟩=some (.bool a1_1):=(blk_cell BK398.out 1).trans rfl;have hcz5_2:w4.cell? ⟨gb398,2,none⟩=some (.int .i64 a1_2):=(blk_cell BK398.out 2).trans rfl;have hcz5_3:w4.cell? ⟨gb398,3,none⟩=some (.int .i64 a1_3):=(blk_cell BK398.out 3).trans rfl;have hcz5_4:w4.cell? ⟨gb398,4,none⟩=some (.int .i64 a1_4):=(blk_cell BK398.out 4).trans rfl;have hcz5_5:w4.cell? ⟨gb398,5,none⟩=some (.slice A1_5 l1_5.length c1_5):=(blk_cell BK398.out 5).trans rfl;have hfz5_0:=blk_frozen BK398.out 0;have hfz5_1:=blk_frozen BK398.out 1;have hfz5_2:=blk_frozen BK398.out 2;have hfz5_3:=blk_frozen BK398.out 3;have hfz5_4:=blk_frozen BK398.out 4;have hfz5_5:=blk_frozen BK398.out 5));try go_wp2_with (first|((with_reducible refine gate_dst (N:=3) rfl ?_);refine box_event ?hg (N:=3) ?hd (cs:=#[.bool a1_0,.bool a1_1,.int .i64 a1_2,.int .i64 a1_3,.int .i64 a1_4,.slice A1_5 l1_5.length c1_5]) (t:=34) ?hr ?_;(case hd=>rfl);(case hg=>rfl);(case hr=>first|(go_simp;done)|(go_simp;rfl));intro gb398 hg w4 hbox hb;have n0_:=Aside0.mk (below_step (by repeat (first|(with_reducible first|exact HB.out|apply below_alloc|apply pw_below_drewN|apply below_drew1)|exact HB.out)) hb);have n1_:=Aside0.mk (hbox);have n2_:=Aside0.mk ((by rw [hg];exact (below_size (by repeat (first|(with_reducible first|exact HB.out|apply below_alloc|apply pw_below_drewN|apply below_drew1)|exact HB.out))):w.heap.size ≤ gb398));have n3_:=Aside0.mk ((by rw [hg];exact (below_size (by repeat (first|(with_reducible first|exact HB.out|apply below_alloc|apply pw_below_drewN|apply below_drew1)|exact HB.out))):w.heap.size ≤ gb398));clear HB;have HB:=n0_;have BK398:=n1_;have GW398:=n2_;have GE398:=n3_;clear n0_ n1_ n2_ n3_;clear hb hbox hg;have hcz5_0:w4.cell? ⟨gb398,0,none⟩=some (.bool a1_0):=(blk_cell BK398.out 0).trans rfl;have hcz5_1:w4.cell? ⟨gb398,1,none⟩=some (.bool a1_1):=(blk_cell BK398.out 1).trans rfl;have hcz5_2:w4.cell? ⟨gb398,2,none⟩=some (.int .i64 a1_2):=(blk_cell BK398.out 2).trans rfl;have hcz5_3:w4.cell? ⟨gb398,3,none⟩=some (.int .i64 a1_3):=(blk_cell BK398.out 3).trans rfl;have hcz5_4:w4.cell? ⟨gb398,4,none⟩=some (.int .i64 a1_4):=(blk_cell BK398.out 4).trans rfl;have hcz5_5:w4.cell? ⟨gb398,5,none⟩=some (.slice A1_5 l1_5.length c1_5):=(blk_cell BK398.out 5).trans rfl;have hfz5_0:=blk_frozen BK398.out 0;have hfz5_1:=blk_frozen BK398.out 1;have hfz5_2:=blk_frozen BK398.out 2;have hfz5_3:=blk_frozen BK398.out 3;have hfz5_4:=blk_frozen BK398.out 4;have hfz5_5:=blk_frozen BK398.out 5)))
  go_ret
  exact ⟨by first|rfl|(simp [errW_none,errW_some] <;> rfl)|(simp [*,errW_none,errW_some] <;> rfl),by repeat (first|(with_reducible first|exact HB.out|apply below_alloc|apply pw_below_drewN|apply below_drew1|refine below_set ?_ GE398.out)|exact HB.out)⟩
 ·rw [if_neg c3] at H
  have c3b0:(a1_2 == 255)=false:=beq_eq_false_iff_ne.mpr c3
  have c3b1:(a1_2 != 255)=true:=bne_iff_ne.mpr c3
  replace H:=Option.bind_eq_some_iff.mp H
  obtain ⟨t399,A60,H⟩:=H
  replace H:(if t399 ≥ 0 then (if 0 ≤ t399 then (if t399 < (l0.length:Int) then (if a1_3 < ((rd_T39 l0 t399).f1) then (some 3) else (if a1_3=((rd_T39 l0 t399).f1) then (spec_l21Check.j0 k ((rd_T39 l0 t399).f2) a1_0 a1_1 a1_2 a1_3 a1_4 l1_5) else (spec_l21Check.j0 k 0 a1_0 a1_1 a1_2 a1_3 a1_4 l1_5))) else (none)) else (none)) else (spec_l21Check.j0 k 0 a1_0 a1_1 a1_2 a1_3 a1_4 l1_5))=some r:=H
  have A6:=Aside0.mk A60
  clear A60
  have HC7:=Aside0.mk H
  clear H
  go_enter Try.func60,Try.ntmps60
  go_upto_if 15 with (first|((with_reducible refine gate_dst (N:=3) rfl ?_);refine box_event ?hg (N:=3) ?hd (cs:=#[.bool a1_0,.bool a1_1,.int .i64 a1_2,.int .i64 a1_3,.int .i64 a1_4,.slice A1_5 l1_5.length c1_5]) (t:=34) ?hr ?_;(case hd=>rfl);(case hg=>rfl);(case hr=>first|(go_simp;done)|(go_simp;rfl));intro gb398 hg w8 hbox hb;have n0_:=Aside0.mk (below_step (by repeat (first|(with_reducible first|exact HB.out|apply below_alloc|apply pw_below_drewN|apply below_drew1)|exact HB.out)) hb);have n1_:=Aside0.mk (hbox);have n2_:=Aside0.mk ((by rw [hg];exact (below_size (by repeat (first|(with_reducible first|exact HB.out|apply below_alloc|apply pw_below_drewN|apply below_drew1)|exact HB.out))):w.heap.size ≤ gb398));have n3_:=Aside0.mk ((by rw [hg];exact (below_size (by repeat (first|(with_reducible first|exact HB.out|apply below_alloc|apply pw_below_drewN|apply below_drew1)|exact HB.out))):w.heap.size ≤ gb398));clear HB;have HB:=n0_;have BK398:=n1_;have GW398:=n2_;have GE398:=n3_;clear n0_ n1_ n2_ n3_;clear hb hbox hg;have hcz9_0:w8.cell? ⟨gb398,0,none⟩=some (.bool a1_0):=(blk_cell BK398.out 0).trans rfl;have hcz9_1:w8.cell? ⟨gb398,1,none⟩=some (.bool a1_1):=(blk_cell BK398.out 1).trans rfl;have hcz9_2:w8.cell? ⟨gb398,2,none⟩=some (.int .i64 a1_2):=(blk_cell BK398.out 2).trans rfl;have hcz9_3:w8.cell? ⟨gb398,3,none⟩=some (.int .i64 a1_3):=(blk_cell BK398.out 3).trans rfl;have hcz9_4:w8.cell? ⟨gb398,4,none⟩=some (.int .i64 a1_4):=(blk_cell BK398.out 4).trans rfl;have hcz9_5:w8.cell? ⟨gb398,5,none⟩=some (.slice A1_5 l1_5.length c1_5):=(blk_cell BK398.out 5).trans rfl;have hfz9_0:=blk_frozen BK398.out 0;have hfz9_1:=blk_frozen BK398.out 1;have hfz9_2:=blk_frozen BK398.out 2;have hfz9_3:=blk_frozen BK398.out 3;have hfz9_4:=blk_frozen BK398.out 4;have hfz9_5:=blk_frozen BK398.out 5)|(go_at_call 71;(with_reducible refine (spec_l21At.calls k _ _ l0 a1_2 t399 _ ?side1 ?side2 A6.out).mono ?_);(case side1=>repeat (first|exact (Kd.C_below HR0.out HB.out)|(with_reducible refine Kd.C_alloc ?_ _)|(with_reducible refine Kd.C_drewN ?_ _)|(with_reducible refine Kd.C_drew ?_)));(case side2=>exact HC0.out);rintro e w' ⟨rfl,⟨nd,rfl⟩⟩;(try first|exact ⟨rfl,_,World.drewN_drewN _ _ _⟩|exact ⟨rfl,_,Eq.trans (World.drewN_drewN _ _ _) (congrArg (World.drewN _) (Nat.add_assoc _ _ _))⟩)))
  repeat (go_quiet (first|((with_reducible refine gate_dst (N:=3) rfl ?_);refine box_event ?hg (N:=3) ?hd (cs:=#[.bool a1_0,.bool a1_1,.int .i64 a1_2,.int .i64 a1_3,.int .i64 a1_4,.slice A1_5 l1_5.length c1_5]) (t:=34) ?hr ?_;(case hd=>rfl);(case hg=>rfl);(case hr=>first|(go_simp;done)|(go_simp;rfl));intro gb398 hg w8 hbox hb;have n0_:=Aside0.mk (below_step (by repeat (first|(with_reducible first|exact HB.out|apply below_alloc|apply pw_below_drewN|apply below_drew1)|exact HB.out)) hb);have n1_:=Aside0.mk (hbox);have n2_:=Aside0.mk ((by rw [hg];exact (below_size (by repeat (first|(with_reducible first|exact HB.out|apply below_alloc|apply pw_below_drewN|apply below_drew1)|exact HB.out))):w.heap.size ≤ gb398));have n3_:=Aside0.mk ((by rw [hg];exact (below_size (by repeat (first|(with_reducible first|exact HB.out|apply below_alloc|apply pw_below_drewN|apply below_drew1)|exact HB.out))):w.heap.size ≤ gb398));clear HB;have HB:=n0_;have BK398:=n1_;have GW398:=n2_;have GE398:=n3_;clear n0_ n1_ n2_ n3_;clear hb hbox hg;have hcz9_0:w8.cell? ⟨gb398,0,none⟩=some (.bool a1_0):=(blk_cell BK398.out 0).trans rfl;have hcz9_1:w8.cell? ⟨gb398,1,none⟩=some (.bool a1_1):=(blk_cell BK398.out 1).trans rfl;have hcz9_2:w8.cell? ⟨gb398,2,none⟩=some (.int .i64 a1_2):=(blk_cell BK398.out 2).trans rfl;have hcz9_3:w8.cell? ⟨gb398,3,none⟩=some (.int .i64 a1_3):=(blk_cell BK398.out 3).trans rfl;have hcz9_4:w8.cell? ⟨gb398,4,none⟩=some (.int .i64 a1_4):=(blk_cell BK398.out 4).trans rfl;have hcz9_5:w8.cell? ⟨gb398,5,none⟩=some (.slice A1_5 l1_5.length c1_5):=(blk_cell BK398.out 5).trans rfl;have hfz9_0:=blk_frozen BK398.out 0;have hfz9_1:=blk_frozen BK398.out 1;have hfz9_2:=blk_frozen BK398.out 2;have hfz9_3:=blk_frozen BK398.out 3;have hfz9_4:=blk_frozen BK398.out 4;have hfz9_5:=blk_frozen BK398.out 5)|(go_at_call 71;(with_reducible refine (spec_l21At.calls k _ _ l0 a1_2 t399 _ ?side1 ?side2 A6.out).mono ?_);(case side1=>repeat (first|exact (Kd.C_below HR0.out HB.out)|(with_reducible refine Kd.C_alloc ?_ _)|(with_reducible refine Kd.C_drewN ?_ _)|(with_reducible refine Kd.C_drew ?_)));(case side2=>exact HC0.out);rintro e w' ⟨rfl,⟨nd,rfl⟩⟩;(try first|exact ⟨rfl,_,World.drewN_drewN _ _ _⟩|exact ⟨rfl,_,Eq.trans (World.drewN_drewN _ _ _) (congrArg (World.drewN _) (Nat.add_assoc _ _ _))⟩)));go_upto_if 15 with (first|((with_reducible refine gate_dst (N:=3) rfl ?_);refine box_event ?hg (N:=3) ?hd (cs:=#[.bool a1_0,.bool a1_1,.int .i64 a1_2,.int .i64 a1_3,.int .i64 a1_4,.slice A1_5 l1_5.length c1_5]) (t:=34) ?hr ?_;(case hd=>rfl);(case hg=>rfl);(case hr=>first|(go_simp;done)|(go_simp;rfl));intro gb398 hg w8 hbox hb;have n0_:=Aside0.mk (below_step (by repeat (first|(with_reducible first|exact HB.out|apply below_alloc|apply pw_below_drewN|apply below_drew1)|exact HB.out)) hb);have n1_:=Aside0.mk (hbox);have n2_:=Aside0.mk ((by rw [hg];exact (below_size (by repeat (first|(with_reducible first|exact HB.out|apply below_alloc|apply pw_below_drewN|apply below_drew1)|exact HB.out))):w.heap.size ≤ gb398));have n3_:=Aside0.mk ((by rw [hg];exact (below_size (by repeat (first|(with_reducible first|exact HB.out|apply below_alloc|apply pw_below_drewN|apply below_drew1)|exact HB.out))):w.heap.size ≤ gb398));clear HB;have HB:=n0_;have BK398:=n1_;have GW398:=n2_;have GE398:=n3_;clear n0_ n1_ n2_ n3_;clear hb hbox hg;have hcz9_0:w8.cell? ⟨gb398,0,none⟩=some (.bool a1_0):=(blk_cell BK398.out 0).trans rfl;have hcz9_1:w8.cell? ⟨gb398,1,none⟩=some (.bool a1_1):=(blk_cell BK398.out 1).trans rfl;have hcz9_2:w8.cell? ⟨gb398,2,none⟩=some (.int .i64 a1_2):=(blk_cell BK398.out 2).trans rfl;have hcz9_3:w8.cell? ⟨gb398,3,none⟩=some (.int .i64 a1_3):=(blk_cell BK398.out 3).trans rfl;have hcz9_4:w8.cell? ⟨gb398,4,none⟩=some (.int .i64 a1_4):=(blk_cell BK398.out 4).trans rfl;have hcz9_5:w8.cell? ⟨gb398,5,none⟩=some (.slice A1_5 l1_5.length c1_5):=(blk_cell BK398.out 5).trans rfl;have hfz9_0:=blk_frozen BK398.out 0;have hfz9_1:=blk_frozen BK398.out 1;have hfz9_2:=blk_frozen BK398.out 2;have hfz9_3:=blk_frozen BK398.out 3;have hfz9_4:=blk_frozen BK398.out 4;have hfz9_5:=blk_frozen BK398.out 5)|(go_at_call 71;(with_reducible refine (spec_l21At.calls k _ _ l0 a1_2 t399 _ ?side1 ?side2 A6.out).mono ?_);(case side1=>repeat (first|exact (Kd.C_below HR0.out HB.out)|(with_reducible refine Kd.C_alloc ?_ _)|(with_reducible refine Kd.C_drewN ?_ _)|(with_reducible refine Kd.C_drew ?_)));(case side2=>exact HC0.out);rintro e w' ⟨rfl,⟨nd,rfl⟩⟩;(try first|exact ⟨rfl,_,World.drewN_drewN _ _ _⟩|exact ⟨rfl,_,Eq.trans (World.drewN_drewN _ _ _) (congrArg (World.drewN _) (Nat.add_assoc _ _ _))⟩))))
  (try simp only [Act.put,setIfInBounds_toArray,set_cons_zero,set_cons_succ])
  go_cut [6] (fun v6 wc=>∃ (kq:Nat) (x6_6:Int),v6 = .int .i64 x6_6∧Aside0 (spec_l21Check.j0 kq x6_6 a1_0 a1_1 a1_2 a1_3 a1_4 l1_5=some r)∧Aside0 (kq ≤ k)∧Aside0 (wc.heap[gb398]? = some (.cells #[.bool a1_0,.bool a1_1,.int .i64 a1_2,.int .i64 a1_3,.int .i64 a1_4,(.slice A1_5 l1_5.length c1_5)] 34 (0,0)))∧Aside0 (Below w.heap.size w wc))
  case first=>
   have H:=HC7.out
   clear HC7
   by_cases c10:t399 ≥ 0
   ·rw [if_pos c10] at H
    have c10b0:decide (0 ≤ t399)=true:=decide_eq_true c10
    clear c10
    (first|rw [c10b0]|(simp only [i64_w,i32_w];rw [c10b0])|skip)
    by_cases c11 : 0 ≤ t399
    ·rw [if_pos c11] at H
     have c11b0:decide (0 ≤ t399)=true:=decide_eq_true c11
     clear c11
     by_cases c12:t399 < (l0.length:Int)
     ·rw [if_pos c12] at H
      have c12b0:decide (t399 < (l0.length:Int))=true:=decide_eq_true c12
      clear c12
      by_cases c13:a1_3 < ((rd_T39 l0 t399).f1)
      ·rw [if_pos c13] at H
       have c13b0:decide (a1_3 < ((rd_T39 l0 t399).f1))=true:=decide_eq_true c13
       clear c13
       obtain rfl:=Option.some.inj H
       have hcz14_0:w8.cell? ⟨gb398,0,none⟩=some (.bool a1_0):=(blk_cell BK398.out 0).trans rfl
       have hcz14_1:w8.cell? ⟨gb398,1,none⟩=some (.bool a1_1):=(blk_cell BK398.out 1).trans rfl
       have hcz14_2:w8.cell? ⟨gb398,2,none⟩=some (.int .i64 a1_2):=(blk_cell BK398.out 2).trans rfl
       have hcz14_3:w8.cell? ⟨gb398,3,none⟩=some (.int .i64 a1_3):=(blk_cell BK398.out 3).trans rfl
       have hcz14_4:w8.cell? ⟨gb398,4,none⟩=some (.int .i64 a1_4):=(blk_cell BK398.out 4).trans rfl
       have hcz14_5:w8.cell? ⟨gb398,5,none⟩=some (.slice A1_5 l1_5.length c1_5):=(blk_cell BK398.out 5).trans rfl
       have hfz14_0:=blk_frozen BK398.out 0
       have hfz14_1:=blk_frozen BK398.out 1
       have hfz14_2:=blk_frozen BK398.out 2
       have hfz14_3:=blk_frozen BK398.out 3
       have hfz14_4:=blk_frozen BK398.out 4
       have hfz14_5:=blk_frozen BK398.out 5
       have p400 : 0 ≤ (t399:Int):=of_decide_eq_true (by first|(with_reducible assumption)|assumption)
       have q400:t399 < (l0.length:Int):=of_decide_eq_true (by first|(with_reducible assumption)|assumption)
       obtain ⟨ad400,e400,hx400_0,hx400_1,hx400_2⟩:=at_T39 HR0.out t399 p400 q400
       cases e400
       replace hx400_0:=(HB.out.cell (World.block_lt_of_cell? w _ hx400_0)).trans hx400_0
       replace hx400_1:=(HB.out.cell (World.block_lt_of_cell? w _ hx400_1)).trans hx400_1
       replace hx400_2:=(HB.out.cell (World.block_lt_of_cell? w _ hx400_2)).trans hx400_2
       replace p400:=eq_true p400
       replace q400:=eq_true q400
       go_wp2
       repeat (go_quiet (fail);try go_wp2)
       go_ret
       exact ⟨by first|rfl|(simp [errW_none,errW_some] <;> rfl)|(simp [*,errW_none,errW_some] <;> rfl),by repeat (first|(with_reducible first|exact HB.out|apply below_alloc|apply pw_below_drewN|apply below_drew1|refine below_set ?_ GE398.out)|exact HB.out)⟩
      ·rw [if_neg c13] at H
       have c13b0:decide (a1_3 < ((rd_T39 l0 t399).f1))=false:=decide_eq_false c13
       clear c13
       by_cases c15:a1_3=((rd_T39 l0 t399).f1)
       ·rw [if_pos c15] at H
        have c15b0:(a1_3 == ((rd_T39 l0 t399).f1))=true:=beq_iff_eq.mpr c15
        have c15b1:(a1_3 != ((rd_T39 l0 t399).f1))=false:=bne_eq_false_iff_eq.mpr c15
        clear c15
        have H':=Aside0.mk H
        clear H
        have hcz16_0:w8.cell? ⟨gb398,0,none⟩=some (.bool a1_0):=(blk_cell BK398.out 0).trans rfl
        have hcz16_1:w8.cell? ⟨gb398,1,none⟩=some (.bool a1_1):=(blk_cell BK398.out 1).trans rfl
        have hcz16_2:w8.cell? ⟨gb398,2,none⟩=some (.int .i64 a1_2):=(blk_cell BK398.out 2).trans rfl
        have hcz16_3:w8.cell? ⟨gb398,3,none⟩=some (.int .i64 a1_3):=(blk_cell BK398.out 3).trans rfl
        have hcz16_4:w8.cell? ⟨gb398,4,none⟩=some (.int .i64 a1_4):=(blk_cell BK398.out 4).trans rfl
        have hcz16_5:w8.cell? ⟨gb398,5,none⟩=some (.slice A1_5 l1_5.length c1_5):=(blk_cell BK398.out 5).trans rfl
        have hfz16_0:=blk_frozen BK398.out 0
        have hfz16_1:=blk_frozen BK398.out 1
        have hfz16_2:=blk_frozen BK398.out 2
        have hfz16_3:=blk_frozen BK398.out 3
        have hfz16_4:=blk_frozen BK398.out 4
        have hfz16_5:=blk_frozen BK398.out 5
        have p400 : 0 ≤ (t399:Int):=of_decide_eq_true (by first|(with_reducible assumption)|assumption)
        have q400:t399 < (l0.length:Int):=of_decide_eq_true (by first|(with_reducible assumption)|assumption)
        obtain ⟨ad400,e400,hx400_0,hx400_1,hx400_2⟩:=at_T39 HR0.out t399 p400 q400
        cases e400
        replace hx400_0:=(HB.out.cell (World.block_lt_of_cell? w _ hx400_0)).trans hx400_0
        replace hx400_1:=(HB.out.cell (World.block_lt_of_cell? w _ hx400_1)).trans hx400_1
        replace hx400_2:=(HB.out.cell (World.block_lt_of_cell? w _ hx400_2)).trans hx400_2
        replace p400:=eq_true p400
        replace q400:=eq_true q400
        have p401 : 0 ≤ (t399:Int):=of_decide_eq_true (by first|(with_reducible assumption)|assumption)
        have q401:t399 < (l0.length:Int):=of_decide_eq_true (by first|(with_reducible assumption)|assumption)
        obtain ⟨ad401,e401,hx401_0,hx401_1,hx401_2⟩:=at_T39 HR0.out t399 p401 q401
        obtain rfl:ad400=ad401:=(by injection e401)
        replace hx401_0:=(HB.out.cell (World.block_lt_of_cell? w _ hx401_0)).trans hx401_0
        replace hx401_1:=(HB.out.cell (World.block_lt_of_cell? w _ hx401_1)).trans hx401_1
        replace hx401_2:=(HB.out.cell (World.block_lt_of_cell? w _ hx401_2)).trans hx401_2
        replace p401:=eq_true p401
        replace q401:=eq_true q401
        have p402 : 0 ≤ (t399:Int):=of_decide_eq_true (by first|(with_reducible assumption)|assumption)
        have q402:t399 < (l0.length:Int):=of_decide_eq_true (by first|(with_reducible assumption)|assumption)
        obtain ⟨ad402,e402,hx402_0,hx402_1,hx402_2⟩:=at_T39 HR0.out t399 p402 q402
        obtain rfl:ad400=ad402:=(by injection e402)
        replace hx402_0:=(HB.out.cell (World.block_lt_of_cell? w _ hx402_0)).trans hx402_0
        replace hx402_1:=(HB.out.cell (World.block_lt_of_cell? w _ hx402_1)).trans hx402_1
        replace hx402_2:=(HB.out.cell (World.block_lt_of_cell? w _ hx402_2)).trans hx402_2
        replace p402:=eq_true p402
        replace q402:=eq_true q402
        go_wp2
        repeat (go_quiet (fail);try go_wp2)
        go_meet
        case rel=>exact ⟨_,((rd_T39 l0 t399).f2),(by first|rfl|(simp;done)|(simp [*];done)),H',⟨by first|omega|exact Nat.le_refl _⟩,⟨by (with_reducible repeat (first|refine blk_drewN ?_ _|refine blk_drew ?_|refine blk_alloc ?_ _));exact BK398.out⟩,⟨by repeat (first|(with_reducible first|exact HB.out|apply below_alloc|apply pw_below_drewN|apply below_drew1|refine below_set ?_ GE398.out)|exact HB.out)⟩⟩
       ·rw [if_neg c15] at H
        have c15b0:(a1_3 == ((rd_T39 l0 t399).f1))=false:=beq_eq_false_iff_ne.mpr c15
        have c15b1:(a1_3 != ((rd_T39 l0 t399).f1))=true:=bne_iff_ne.mpr c15
        have H':=Aside0.mk H
        clear H
        have hcz17_0:w8.cell? ⟨gb398,0,none⟩=some (.bool a1_0):=(blk_cell BK398.out 0).trans rfl
        have hcz17_1:w8.cell? ⟨gb398,1,none⟩=some (.bool a1_1):=(blk_cell BK398.out 1).trans rfl
        have hcz17_2:w8.cell? ⟨gb398,2,none⟩=some (.int .i64 a1_2):=(blk_cell BK398.out 2).trans rfl
        have hcz17_3:w8.cell? ⟨gb398,3,none⟩=some (.int .i64 a1_3):=(blk_cell BK398.out 3).trans rfl
        have hcz17_4:w8.cell? ⟨gb398,4,none⟩=some (.int .i64 a1_4):=(blk_cell BK398.out 4).trans rfl
        have hcz17_5:w8.cell? ⟨gb398,5,none⟩=some (.slice A1_5 l1_5.length c1_5):=(blk_cell BK398.out 5).trans rfl
        have hfz17_0:=blk_frozen BK398.out 0
        have hfz17_1:=blk_frozen BK398.out 1
        have hfz17_2:=blk_frozen BK398.out 2
        have hfz17_3:=blk_frozen BK398.out 3
        have hfz17_4:=blk_frozen BK398.out 4
        have hfz17_5:=blk_frozen BK398.out 5
        have p400 : 0 ≤ (t399:Int):=of_decide_eq_true (by first|(with_reducible assumption)|assumption)
        have q400:t399 < (l0.length:Int):=of_decide_eq_true (by first|(with_reducible assumption)|assumption)
        obtain ⟨ad400,e400,hx400_0,hx400_1,hx400_2⟩:=at_T39 HR0.out t399 p400 q400
        cases e400
        replace hx400_0:=(HB.out.cell (World.block_lt_of_cell? w _ hx400_0)).trans hx400_0
        replace hx400_1:=(HB.out.cell (World.block_lt_of_cell? w _ hx400_1)).trans hx400_1
        replace hx400_2:=(HB.out.cell (World.block_lt_of_cell? w _ hx400_2)).trans hx400_2
        replace p400:=eq_true p400
        replace q400:=eq_true q400
        have p401 : 0 ≤ (t399:Int):=of_decide_eq_true (by first|(with_reducible assumption)|assumption)
        have q401:t399 < (l0.length:Int):=of_decide_eq_true (by first|(with_reducible assumption)|assumption)
        obtain ⟨ad401,e401,hx401_0,hx401_1,hx401_2⟩:=at_T39 HR0.out t399 p401 q401
        obtain rfl:ad400=ad401:=(by injection e401)
        replace hx401_0:=(HB.out.cell (World.block_lt_of_cell? w _ hx401_0)).trans hx401_0
        replace hx401_1:=(HB.out.cell (World.block_lt_of_cell? w _ hx401_1)).trans hx401_1
        replace hx401_2:=(HB.out.cell (World.block_lt_of_cell? w _ hx401_2)).trans hx401_2
        replace p401:=eq_true p401
        replace q401:=eq_true q401
        go_wp2
        repeat (go_quiet (fail);try go_wp2)
        go_meet
        case rel=>exact ⟨_,(0),(by first|rfl|(simp;done)|(simp [*];done)),H',⟨by first|omega|exact Nat.le_refl _⟩,⟨by (with_reducible repeat (first|refine blk_drewN ?_ _|refine blk_drew ?_|refine blk_alloc ?_ _));exact BK398.out⟩,⟨by repeat (first|(with_reducible first|exact HB.out|apply below_alloc|apply pw_below_drewN|apply below_drew1|refine below_set ?_ GE398.out)|exact HB.out)⟩⟩
     ·rw [if_neg c12] at H
      exact absurd H (by simp)
    ·rw [if_neg c11] at H
     exact absurd H (by simp)
   ·rw [if_neg c10] at H
    have c10b0:decide (0 ≤ t399)=false:=decide_eq_false c10
    clear c10
    (first|rw [c10b0]|(simp only [i64_w,i32_w];rw [c10b0])|skip)
    have H':=Aside0.mk H
    clear H
    go_wp2
    repeat (go_quiet (fail);try go_wp2)
    go_meet
    case rel=>exact ⟨_,(0),(by first|rfl|(simp;done)|(simp [*];done)),H',⟨by first|omega|exact Nat.le_refl _⟩,⟨by (with_reducible repeat (first|refine blk_drewN ?_ _|refine blk_drew ?_|refine blk_alloc ?_ _));exact BK398.out⟩,⟨by repeat (first|(with_reducible first|exact HB.out|apply below_alloc|apply pw_below_drewN|apply below_drew1|refine below_set ?_ GE398.out)|exact HB.out)⟩⟩
  case rest=>
   clear HC7
   try clear c1
   try clear p2
   try clear c3
   try clear c3b0
   try clear c3b1
   try clear p4
   try clear q4
   try clear hx4
   try clear c6
   try clear c10
   try clear c10b0
   try clear c11
   try clear c11b0
   try clear c12
   try clear c12b0
   try clear c13
   try clear c13b0
   try clear c15
   try clear c15b0
   try clear c15b1
   try clear hcz14_0
   try clear hcz14_1
   try clear hcz14_2
   try clear hcz14_3
   try clear hcz14_4
   try clear hcz14_5
   try clear hcz16_0
   try clear hcz16_1
   try clear hcz16_2
   try clear hcz16_3
   try clear hcz16_4
   try clear hcz16_5
   try clear hcz17_0
   try clear hcz17_1
   try clear hcz17_2
   try clear hcz17_3
   try clear hcz17_4
   try clear hcz17_5
   try clear hcz5_0
   try clear hcz5_1
   try clear hcz5_2
   try clear hcz5_3
   try clear hcz5_4
   try clear hcz5_5
   try clear hcz9_0
   try clear hcz9_1
   try clear hcz9_2
   try clear hcz9_3
   try clear hcz9_4
   try clear hcz9_5
   try clear hfz14_0
   try clear hfz14_1
   try clear hfz14_2
   try clear hfz14_3
   try clear hfz14_4
   try clear hfz14_5
   try clear hfz16_0
   try clear hfz16_1
   try clear hfz16_2
   try clear hfz16_3
   try clear hfz16_4
   try clear hfz16_5
   try clear hfz17_0
   try clear hfz17_1
   try clear hfz17_2
   try clear hfz17_3
   try clear hfz17_4
   try clear hfz17_5
   try clear hfz5_0
   try clear hfz5_1
   try clear hfz5_2
   try clear hfz5_3
   try clear hfz5_4
   try clear hfz5_5
   try clear hfz9_0
   try clear hfz9_1
   try clear hfz9_2
   try clear hfz9_3
   try clear hfz9_4
   try clear hfz9_5
   try clear hx400_0
   try clear hx400_1
   try clear hx400_2
   try clear hx401_0
   try clear hx401_1
   try clear hx401_2
   try clear hx402_0
   try clear hx402_1
   try clear hx402_2
   try clear p400
   try clear p401
   try clear p402
   try clear q400
   try clear q401
   try clear q402
   obtain ⟨kq,x6_6,rfl,HA,HJ6,BK398,HB⟩:=hcut
   cases kq with
   | zero=>exact absurd HA.out (by simp [spec_l21Check.j0])
   | succ kj6=>
    have H:=HA.out
    clear HA
    simp only [spec_l21Check.j0] at H
    by_cases c18:a1_4 < x6_6
    ·rw [if_pos c18] at H
     have c18b0:decide (a1_4 < x6_6)=true:=decide_eq_true c18
     clear c18
     obtain rfl:=Option.some.inj H
     have hcz19_0:wc.cell? ⟨gb398,0,none⟩=some (.bool a1_0):=(blk_cell BK398.out 0).trans rfl
     have hcz19_1:wc.cell? ⟨gb398,1,none⟩=some (.bool a1_1):=(blk_cell BK398.out 1).trans rfl
     have hcz19_2:wc.cell? ⟨gb398,2,none⟩=some (.int .i64 a1_2):=(blk_cell BK398.out 2).trans rfl
     have hcz19_3:wc.cell? ⟨gb398,3,none⟩=some (.int .i64 a1_3):=(blk_cell BK398.out 3).trans rfl
     have hcz19_4:wc.cell? ⟨gb398,4,none⟩=some (.int .i64 a1_4):=(blk_cell BK398.out 4).trans rfl
     have hcz19_5:wc.cell? ⟨gb398,5,none⟩=some (.slice A1_5 l1_5.length c1_5):=(blk_cell BK398.out 5).trans rfl
     have hfz19_0:=blk_frozen BK398.out 0
     have hfz19_1:=blk_frozen BK398.out 1
     have hfz19_2:=blk_frozen BK398.out 2
     have hfz19_3:=blk_frozen BK398.out 3
     have hfz19_4:=blk_frozen BK398.out 4
     have hfz19_5:=blk_frozen BK398.out 5
     go_wp2
     repeat (go_quiet (fail);try go_wp2)
     go_ret
     exact ⟨by first|rfl|(simp [errW_none,errW_some] <;> rfl)|(simp [*,errW_none,errW_some] <;> rfl),by repeat (first|(with_reducible first|exact HB.out|apply below_alloc|apply pw_below_drewN|apply below_drew1|refine below_set ?_ GE398.out)|exact HB.out)⟩
    ·rw [if_neg c18] at H
     have c18b0:decide (a1_4 < x6_6)=false:=decide_eq_false c18
     clear c18
     by_cases c20:a1_4 > x6_6
     ·rw [if_pos c20] at H
      have c20b0:decide (x6_6 < a1_4)=true:=decide_eq_true c20
      clear c20
      obtain rfl:=Option.some.inj H
      have hcz21_0:wc.cell? ⟨gb398,0,none⟩=some (.bool a1_0):=(blk_cell BK398.out 0).trans rfl
      have hcz21_1:wc.cell? ⟨gb398,1,none⟩=some (.bool a1_1):=(blk_cell BK398.out 1).trans rfl
      have hcz21_2:wc.cell? ⟨gb398,2,none⟩=some (.int .i64 a1_2):=(blk_cell BK398.out 2).trans rfl
      have hcz21_3:wc.cell? ⟨gb398,3,none⟩=some (.int .i64 a1_3):=(blk_cell BK398.out 3).trans rfl
      have hcz21_4:wc.cell? ⟨gb398,4,none⟩=some (.int .i64 a1_4):=(blk_cell BK398.out 4).trans rfl
      have hcz21_5:wc.cell? ⟨gb398,5,none⟩=some (.slice A1_5 l1_5.length c1_5):=(blk_cell BK398.out 5).trans rfl
      have hfz21_0:=blk_frozen BK398.out 0
      have hfz21_1:=blk_frozen BK398.out 1
      have hfz21_2:=blk_frozen BK398.out 2
      have hfz21_3:=blk_frozen BK398.out 3
      have hfz21_4:=blk_frozen BK398.out 4
      have hfz21_5:=blk_frozen BK398.out 5
      go_wp2
      repeat (go_quiet (fail);try go_wp2)
      go_ret
      exact ⟨by first|rfl|(simp [errW_none,errW_some] <;> rfl)|(simp [*,errW_none,errW_some] <;> rfl),by repeat (first|(with_reducible first|exact HB.out|apply below_alloc|apply pw_below_drewN|apply below_drew1|refine below_set ?_ GE398.out)|exact HB.out)⟩
     ·rw [if_neg c20] at H
      have c20b0:decide (x6_6 < a1_4)=false:=decide_eq_false c20
      clear c20
      obtain rfl:=Option.some.inj H
      have hcz22_0:wc.cell? ⟨gb398,0,none⟩=some (.bool a1_0):=(blk_cell BK398.out 0).trans rfl
      have hcz22_1:wc.cell? ⟨gb398,1,none⟩=some (.bool a1_1):=(blk_cell BK398.out 1).trans rfl
      have hcz22_2:wc.cell? ⟨gb398,2,none⟩=some (.int .i64 a1_2):=(blk_cell BK398.out 2).trans rfl
      have hcz22_3:wc.cell? ⟨gb398,3,none⟩=some (.int .i64 a1_3):=(blk_cell BK398.out 3).trans rfl
      have hcz22_4:wc.cell? ⟨gb398,4,none⟩=some (.int .i64 a1_4):=(blk_cell BK398.out 4).trans rfl
      have hcz22_5:wc.cell? ⟨gb398,5,none⟩=some (.slice A1_5 l1_5.length c1_5):=(blk_cell BK398.out 5).trans rfl
      have hfz22_0:=blk_frozen BK398.out 0
      have hfz22_1:=blk_frozen BK398.out 1
      have hfz22_2:=blk_frozen BK398.out 2
      have hfz22_3:=blk_frozen BK398.out 3
      have hfz22_4:=blk_frozen BK398.out 4
      have hfz22_5:=blk_frozen BK398.out 5
      go_wp2
      repeat (go_quiet (fail);try go_wp2)
      go_ret
      exact ⟨by first|rfl|(simp [errW_none,errW_some] <;> rfl)|(simp [*,errW_none,errW_some] <;> rfl),by repeat (first|(with_reducible first|exact HB.out|apply below_alloc|apply pw_below_drewN|apply below_drew1|refine below_set ?_ GE398.out)|exact HB.out)⟩
end Go.Proofs.Ytkhmopmfbocokaa.T
namespace Go.Proofs.Ytkhmopmfbocokaa.T
open Go.RowKit Go.Proofs.YtkhmopmfbocokaaW.PrintWords Go.Proofs.YtkhmopmfbocokaaW.PrintLast Go.Proofs.YtkhmopmfbocokaaW.PrintMore
attribute [local go_sem] max2_int max_two
set_option linter.unusedVariables false
set_option linter.unusedSimpArgs false
def spec_ProducersCheck.f (k:Nat) (l0:List (S39)) (a1_0:Bool) (a1_1:Bool) (a1_2:Int) (a1_3:Int) (a1_4:Int) (l1_5:List (S79)):Option (Int):=(spec_ProducersValid.f k l0).bind fun t404=>(if t404=true then ((spec_BatchValid.f k a1_0 a1_1 a1_2 a1_3 a1_4 l1_5).bind fun t405=>(if t405=true then ((spec_l21Check.f k l0 a1_0 a1_1 a1_2 a1_3 a1_4 l1_5).bind fun t406=>(some t406)) else (some 5))) else (some 5))
set_option maxHeartbeats 8000000 in
set_option maxRecDepth 100000 in
theorem spec_ProducersCheck.calls (k:Nat) (A0:Option Addr) (c0:Nat) (l0:List (S39)) (a1_0:Bool) (a1_1:Bool) (a1_2:Int) (a1_3:Int) (a1_4:Int) (A1_5:Option Addr) (c1_5:Nat) (l1_5:List (S79)) (r:Int) (w:World) (hr0:Kd.C k39 w A0 l0.length l0) (hc0:l0.length ≤ c0) (hr1_5:Kd.C k79 w A1_5 l1_5.length l1_5) (hc1_5:l1_5.length ≤ c1_5) (h:spec_ProducersCheck.f k l0 a1_0 a1_1 a1_2 a1_3 a1_4 l1_5=some r) :
  Calls Try.prog 26 #[.slice A0 l0.length c0,.agg #[.bool a1_0,.bool a1_1,.int .i64 a1_2,.int .i64 a1_3,.int .i64 a1_4,.slice A1_5 l1_5.length c1_5]] w fun e w'=>e = .returned (.int .i64 r)∧Below w.heap.size w w':=by
 have hu34:=Try.underlying34
 have HR0:=Aside0.mk hr0
 have HC0:=Aside0.mk hc0
 clear hr0 hc0
 have HR1_5:=Aside0.mk hr1_5
 have HC1_5:=Aside0.mk hc1_5
 clear hr1_5 hc1_5
 have HB:=Aside0.mk (Below.refl w.heap.size w)
 have H:((spec_ProducersValid.f k l0).bind fun t404=>(if t404=true then ((spec_BatchValid.f k a1_0 a1_1 a1_2 a1_3 a1_4 l1_5).bind fun t405=>(if t405=true then ((spec_l21Check.f k l0 a1_0 a1_1 a1_2 a1_3 a1_4 l1_5).bind fun t406=>(some t406)) else (some 5))) else (some 5)))=some r:=h
 clear h
 replace H:=Option.bind_eq_some_iff.mp H
 obtain ⟨t404,A30,H⟩:=H
 replace H:(if t404=true then ((spec_BatchValid.f k a1_0 a1_1 a1_2 a1_3 a1_4 l1_5).bind fun t405=>(if t405=true then ((spec_l21Check.f k l0 a1_0 a1_1 a1_2 a1_3 a1_4 l1_5).bind fun t406=>(some t406)) else (some 5))) else (some 5))=some r:=H
 have A3:=Aside0.mk A30
 clear A30
 by_cases c4:t404=true
 ·subst c4
  have H1:((spec_BatchValid.f k a1_0 a1_1 a1_2 a1_3 a1_4 l1_5).bind fun t405=>(if t405=true then ((spec_l21Check.f k l0 a1_0 a1_1 a1_2 a1_3 a1_4 l1_5).bind fun t406=>(some t406)) else (some 5)))=some r:=by rw [if_pos rfl] at H;exact H
  clear H
  have H:=H1
  clear H1
  replace H:=Option.bind_eq_some_iff.mp H
  obtain ⟨t405,A50,H⟩:=H
  replace H:(if t405=true then ((spec_l21Check.f k l0 a1_0 a1_1 a1_2 a1_3 a1_4 l1_5).bind fun t406=>(some t406)) else (some 5))=some r:=H
  have A5:=Aside0.mk A50
  clear A50
  by_cases c6:t405=true
  ·subst c6
   have H1:((spec_l21Check.f k l0 a1_0 a1_1 a1_2 a1_3 a1_4 l1_5).bind fun t406=>(some t406))=some r:=by rw [if_pos rfl] at H;exact H
   clear H
   have H:=H1
   clear H1
   replace H:=Option.bind_eq_some_iff.mp H
   obtain ⟨t406,A70,H⟩:=H
   replace H:(some t406)=some r:=H
   have A7:=Aside0.mk A70
   clear A70
   obtain rfl:=Option.some.inj H
   go_enter Try.func26,Try.ntmps26
   go_wp2_with (first|((with_reducible refine gate_dst (N:=3) rfl ?_);refine box_event ?hg (N:=3) ?hd (cs:=#[.bool a1_0,.bool a1_1,.int .i64 a1_2,.int .i64 a1_3,.int .i64 a1_4,.slice A1_5 l1_5.length c1_5]) (t:=34) ?hr ?_;(case hd=>rfl);(case hg=>rfl);(case hr=>first|(go_simp;done)|(go_simp;rfl));intro gb403 hg w8 hbox hb;have n0_:=Aside0.mk (below_step (by repeat (first|(with_reducible first|exact HB.out|apply below_alloc|apply pw_below_drewN|apply below_drew1)|exact HB.out)) hb);have n1_:=Aside0.mk (hbox);have n2_:=Aside0.mk ((by rw [hg];exact (below_size (by repeat (first|(with_reducible first|exact HB.out|apply below_alloc|apply pw_below_drewN|apply below_drew1)|exact HB.out))):w.heap.size ≤ gb403));have n3_:=Aside0.mk ((by rw [hg];exact (below_size (by repeat (first|(with_reducible first|exact HB.out|apply below_alloc|apply pw_below_drewN|apply below_drew1)|exact HB.out))):w.heap.size ≤ gb403));clear HB;have HB:=n0_;have BK403:=n1_;have GW403:=n2_;have GE403:=n3_;clear n0_ n1_ n2_ n3_;clear hb hbox hg)|((with_reducible refine gate_callee (f:=20) rfl ?_);refine goesL_ (some 6) rfl rfl Try.func20 (by kernel_rfl) rfl #[.slice A0 l0.length c0] rfl (by (try simp only [map_toArray,map_cons,map_nil]);first|done|rfl|(simp only [length_drop,length_take];rfl)) ?_;(with_reducible refine (spec_ProducersValid.calls k _ _ l0 true _ ?side1 ?side2 A3.out).mono ?_);(case side1=>repeat (first|exact (Kd.C_below HR0.out HB.out)|(with_reducible refine Kd.C_alloc ?_ _)|(with_reducible refine Kd.C_drewN ?_ _)|(with_reducible refine Kd.C_drew ?_)));(case side2=>exact HC0.out);rintro e w9 ⟨rfl,hb⟩;refine ⟨_,rfl,?_⟩;have n0_:=Aside0.mk (blk_below (g:=gb403) (o:=.cells #[.bool a1_0,.bool a1_1,.int .i64 a1_2,.int .i64 a1_3,.int .i64 a1_4,.slice A1_5 l1_5.length c1_5] 34 (0,0)) (by (with_reducible repeat (first|refine blk_drewN ?_ _|refine blk_drew ?_|refine blk_alloc ?_ _));exact BK403.out) hb);have n1_:=Aside0.mk (below_step (by repeat (first|(with_reducible first|exact HB.out|apply below_alloc|apply pw_below_drewN|apply below_drew1|refine below_set ?_ GE403.out)|exact HB.out)) hb);clear BK403 HB;have BK403:=n0_;have HB:=n1_;clear n0_ n1_;(try clear hb);(try clear hb2);(try clear hk);(try clear hi);have hcz10_0:w9.cell? ⟨gb403,0,none⟩=some (.bool a1_0):=(blk_cell BK403.out 0).trans rfl;have hcz10_1:w9.cell? ⟨gb403,1,none⟩=some (.bool a1_1):=(blk_cell BK403.out 1).trans rfl;have hcz10_2:w9.cell? ⟨gb403,2,none⟩=some (.int .i64 a1_2):=(blk_cell BK403.out 2).trans rfl;have hcz10_3:w9.cell? ⟨gb403,3,none⟩=some (.int .i64 a1_3):=(blk_cell BK403.out 3).trans rfl;have hcz10_4:w9.cell? ⟨gb403,4,none⟩=some (.int .i64 a1_4):=(blk_cell BK403.out 4).trans rfl;have hcz10_5:w9.cell? ⟨gb403,5,none⟩=some (.slice A1_5 l1_5.length c1_5):=(blk_cell BK403.out 5).trans rfl;have hfz10_0:=blk_frozen BK403.out 0;have hfz10_1:=blk_frozen BK403.out 1;have hfz10_2:=blk_frozen BK403.out 2;have hfz10_3:=blk_frozen BK403.out 3;have hfz10_4:=blk_frozen BK403.out 4;have hfz10_5:=blk_frozen BK403.out 5)|(go_at_call 59;(with_reducible refine (spec_BatchValid.calls k a1_0 a1_1 a1_2 a1_3 a1_4 _ _ l1_5 true _ ?side1 ?side2 A5.out).mono ?_);(case side1=>repeat (first|exact (Kd.C_below HR1_5.out HB.out)|(with_reducible refine Kd.C_alloc ?_ _)|(with_reducible refine Kd.C_drewN ?_ _)|(with_reducible refine Kd.C_drew ?_)));(case side2=>exact HC1_5.out);rintro e w11 ⟨rfl,hb⟩;have n0_:=Aside0.mk (blk_below (g:=gb403) (o:=.cells #[.bool a1_0,.bool a1_1,.int .i64 a1_2,.int .i64 a1_3,.int .i64 a1_4,.slice A1_5 l1_5.length c1_5] 34 (0,0)) (by (with_reducible repeat (first|refine blk_drewN ?_ _|refine blk_drew ?_|refine blk_alloc ?_ _));exact BK403.out) hb);have n1_:=Aside0.mk (below_step (by repeat (first|(with_reducible first|exact HB.out|apply below_alloc|apply pw_below_drewN|apply below_drew1|refine below_set ?_ GE403.out)|exact HB.out)) hb);clear BK403 HB;have BK403:=n0_;have HB:=n1_;clear n0_ n1_;(try clear hb);(try clear hb2);(try clear hk);(try clear hi);have hcz12_0:w11.cell? ⟨gb403,0,none⟩=some (.bool a1_0):=(blk_cell BK403.out 0).trans rfl;have hcz12_1:w11.cell? ⟨gb403,1,none⟩=some (.bool a1_1):=(blk_cell BK403.out 1).trans rfl;have hcz12_2:w11.cell? ⟨gb403,2,none⟩=some (.int .i64 a1_2):=(blk_cell BK403.out 2).trans rfl;have hcz12_3:w11.cell? ⟨gb403,3,none⟩=some (.int .i64 a1_3):=(blk_cell BK403.out 3).trans rfl;have hcz12_4:w11.cell? ⟨gb403,4,none⟩=some (.int .i64 a1_4):=(blk_cell BK403.out 4).trans rfl;have hcz12_5:w11.cell? ⟨gb403,5,none⟩=some (.slice A1_5 l1_5.length c1_5):=(blk_cell BK403.out 5).trans rfl;have hfz12_0:=blk_frozen BK403.out 0;have hfz12_1:=blk_frozen BK403.out 1;have hfz12_2:=blk_frozen BK403.out 2;have hfz12_3:=blk_frozen BK403.out 3;have hfz12_4:=blk_frozen BK403.out 4;have hfz12_5:=blk_frozen BK403.out 5)|((with_reducible refine gate_callee (f:=60) rfl ?_);refine goesL_ (some 15) rfl rfl Try.func60 (by kernel_rfl) rfl #[.slice A0 l0.length c0,.agg #[.bool a1_0,.bool a1_1,.int .i64 a1_2,.int .i64 a1_3,.int .i64 a1_4,.slice A1_5 l1_5.length c1_5]] rfl (by (try simp only [map_toArray,map_cons,map_nil]);first|done|rfl|(simp only [length_drop,length_take];rfl)) ?_;(with_reducible refine (spec_l21Check.calls k _ _ l0 a1_0 a1_1 a1_2 a1_3 a1_4 _ _ l1_5 t406 _ ?side1 ?side2 ?side3 ?side4 A7.out).mono ?_);(case side1=>repeat (first|exact (Kd.C_below HR0.out HB.out)|(with_reducible refine Kd.C_alloc ?_ _)|(with_reducible refine Kd.C_drewN ?_ _)|(with_reducible refine Kd.C_drew ?_)));(case side2=>exact HC0.out);(case side3=>repeat (first|exact (Kd.C_below HR1_5.out HB.out)|(with_reducible refine Kd.C_alloc ?_ _)|(with_reducible refine Kd.C_drewN ?_ _)|(with_reducible refine Kd.C_drew ?_)));(case side4=>exact HC1_5.out);rintro e w13 ⟨rfl,hb⟩;refine ⟨_,rfl,?_⟩;have n0_:=Aside0.mk (blk_below (g:=gb403) (o:=.cells #[.bool a1_0,.bool a1_1,.int .i64 a1_2,.int .i64 a1_3,.int .i64 a1_4,.slice A1_5 l1_5.length c1_5] 34 (0,0)) (by (with_reducible repeat (first|refine blk_drewN ?_ _|refine blk_drew ?_|refine blk_alloc ?_ _));exact BK403.out) hb);have n1_:=Aside0.mk (below_step (by repeat (first|(with_reducible first|exact HB.out|apply below_alloc|apply pw_below_drewN|apply below_drew1|refine below_set ?_ GE403.out)|exact HB.out)) hb);clear BK403 HB;have BK403:=n0_;have HB:=n1_;clear n0_ n1_;(try clear hb);(try clear hb2);(try clear hk);(try clear hi)))
   go_ret
   exact ⟨by first|rfl|(simp [errW_none,errW_some] <;> rfl)|(simp [*,errW_none,errW_some] <;> rfl),by repeat (first|(with_reducible first|exact HB.out|apply below_alloc|apply pw_below_drewN|apply below_drew1|refine below_set ?_ GE403.out)|exact HB.out)⟩
  ·replace c6:=Bool.eq_false_iff.mpr c6
   subst c6
   have H1:(some 5)=some r:=by rw [if_neg (show ¬ (false=true) by decide)] at H;exact H
   clear H
   have H:=H1
   clear H1
   obtain rfl:=Option.some.inj H
   go_enter Try.func26,Try.ntmps26
   go_wp2_with (first|((with_reducible refine gate_dst (N:=3) rfl ?_);refine box_event ?hg (N:=3) ?hd (cs:=#[.bool a1_0,.bool a1_1,.int .i64 a1_2,.int .i64 a1_3,.int .i64 a1_4,.slice A1_5 l1_5.length c1_5]) (t:=34) ?hr ?_;(case hd=>rfl);(case hg=>rfl);(case hr=>first|(go_simp;done)|(go_simp;rfl));intro gb403 hg w14 hbox hb;have n0_:=Aside0.mk (below_step (by repeat (first|(with_reducible first|exact HB.out|apply below_alloc|apply pw_below_drewN|apply below_drew1)|exact HB.out)) hb);have n1_:=Aside0.mk (hbox);have n2_:=Aside0.mk ((by rw [hg];exact (below_size (by repeat (first|(with_reducible first|exact HB.out|apply below_alloc|apply pw_below_drewN|apply below_drew1)|exact HB.out))):w.heap.size ≤ gb403));have n3_:=Aside0.mk ((by rw [hg];exact (below_size (by repeat (first|(with_reducible first|exact HB.out|apply below_alloc|apply pw_below_drewN|apply below_drew1)|exact HB.out))):w.heap.size ≤ gb403));clear HB;have HB:=n0_;have BK403:=n1_;have GW403:=n2_;have GE403:=n3_;clear n0_ n1_ n2_ n3_;clear hb hbox hg)|((with_reducible refine gate_callee (f:=20) rfl ?_);refine goesL_ (some 6) rfl rfl Try.func20 (by kernel_rfl) rfl #[.slice A0 l0.length c0] rfl (by (try simp only [map_toArray,map_cons,map_nil]);first|done|rfl|(simp only [length_drop,length_take];rfl)) ?_;(with_reducible refine (spec_ProducersValid.calls k _ _ l0 true _ ?side1 ?side2 A3.out).mono ?_);(case side1=>repeat (first|exact (Kd.C_below HR0.out HB.out)|(with_reducible refine Kd.C_alloc ?_ _)|(with_reducible refine Kd.C_drewN ?_ _)|(with_reducible refine Kd.C_drew ?_)));(case side2=>exact HC0.out);rintro e w15 ⟨rfl,hb⟩;refine ⟨_,rfl,?_⟩;have n0_:=Aside0.mk (blk_below (g:=gb403) (o:=.cells #[.bool a1_0,.bool a1_1,.int .i64 a1_2,.int .i64 a1_3,.int .i64 a1_4,.slice A1_5 l1_5.length c1_5] 34 (0,0)) (by (with_reducible repeat (first|refine blk_drewN ?_ _|refine blk_drew ?_|refine blk_alloc ?_ _));exact BK403.out) hb);have n1_:=Aside0.mk (below_step (by repeat (first|(with_reducible first|exact HB.out|apply below_alloc|apply pw_below_drewN|apply below_drew1|refine below_set ?_ GE403.out)|exact HB.out)) hb);clear BK403 HB;have BK403:=n0_;have HB:=n1_;clear n0_ n1_;(try clear hb);(try clear hb2);(try clear hk);(try clear hi);have hcz16_0:w15.cell? ⟨gb403,0,none⟩=some (.bool a1_0):=(blk_cell BK403.out 0).trans rfl;have hcz16_1:w15.cell? ⟨gb403,1,none⟩=some (.bool a1_1):=(blk_cell BK403.out 1).trans rfl;have hcz16_2:w15.cell? ⟨gb403,2,none⟩=some (.int .i64 a1_2):=(blk_cell BK403.out 2).trans rfl;have hcz16_3:w15.cell? ⟨gb403,3,none⟩=some (.int .i64 a1_3):=(blk_cell BK403.out 3).trans rfl;have hcz16_4:w15.cell? ⟨gb403,4,none⟩=some (.int .i64 a1_4):=(blk_cell BK403.out 4).trans rfl;have hcz16_5:w15.cell? ⟨gb403,5,none⟩=some (.slice A1_5 l1_5.length c1_5):=(blk_cell BK403.out 5).trans rfl;have hfz16_0:=blk_frozen BK403.out 0;have hfz16_1:=blk_frozen BK403.out 1;have hfz16_2:=blk_frozen BK403.out 2;have hfz16_3:=blk_frozen BK403.out 3;have hfz16_4:=blk_frozen BK403.out 4;have hfz16_5:=blk_frozen BK403.out 5)|(go_at_call 59;(with_reducible refine (spec_BatchValid.calls k a1_0 a1_1 a1_2 a1_3 a1_4 _ _ l1_5 false _ ?side1 ?side2 A5.out).mono ?_);(case side1=>repeat (first|exact (Kd.C_below HR1_5.out HB.out)|(with_reducible refine Kd.C_alloc ?_ _)|(with_reducible refine Kd.C_drewN ?_ _)|(with_reducible refine Kd.C_drew ?_)));(case side2=>exact HC1_5.out);rintro e w17 ⟨rfl,hb⟩;have n0_:=Aside0.mk (blk_below (g:=gb403) (o:=.cells #[.bool a1_0,.bool a1_1,.int .i64 a1_2,.int .i64 a1_3,.int .i64 a1_4,.slice A1_5 l1_5.length c1_5] 34 (0,0)) (by (with_reducible repeat (first|refine blk_drewN ?_ _|refine blk_drew ?_|refine blk_alloc ?_ _));exact BK403.out) hb);have n1_:=Aside0.mk (below_step (by repeat (first|(with_reducible first|exact HB.out|apply below_alloc|apply pw_below_drewN|apply below_drew1|refine below_set ?_ GE403.out)|exact HB.out)) hb);clear BK403 HB;have BK403:=n0_;have HB:=n1_;clear n0_ n1_;(try clear hb);(try clear hb2);(try clear hk);(try clear hi)))
   go_ret
   exact ⟨by first|rfl|(simp [errW_none,errW_some] <;> rfl)|(simp [*,errW_none,errW_some] <;> rfl),by repeat (first|(with_reducible first|exact HB.out|apply below_alloc|apply pw_below_drewN|apply below_drew1|refine below_set ?_ GE403.out)|exact HB.out)⟩
 ·replace c4:=Bool.eq_false_iff.mpr c4
  subst c4
  have H1:(some 5)=some r:=by rw [if_neg (show ¬ (false=true) by decide)] at H;exact H
  clear H
  have H:=H1
  clear H1
  obtain rfl:=Option.some.inj H
  go_enter Try.func26,Try.ntmps26
  go_wp2_with (first|((with_reducible refine gate_dst (N:=3) rfl ?_);refine box_event ?hg (N:=3) ?hd (cs:=#[.bool a1_0,.bool a1_1,.int .i64 a1_2,.int .i64 a1_3,.int .i64 a1_4,.slice A1_5 l1_5.length c1_5]) (t:=34) ?hr ?_;(case hd=>rfl);(case hg=>rfl);(case hr=>first|(go_simp;done)|(go_simp;rfl));intro gb403 hg w18 hbox hb;have n0_:=Aside0.mk (below_step (by repeat (first|(with_reducible first|exact HB.out|apply below_alloc|apply pw_below_drewN|apply below_drew1)|exact HB.out)) hb);have n1_:=Aside0.mk (hbox);have n2_:=Aside0.mk ((by rw [hg];exact (below_size (by repeat (first|(with_reducible first|exact HB.out|apply below_alloc|apply pw_below_drewN|apply below_drew1)|exact HB.out))):w.heap.size ≤ gb403));have n3_:=Aside0.mk ((by rw [hg];exact (below_size (by repeat (first|(with_reducible first|exact HB.out|apply below_alloc|apply pw_below_drewN|apply below_drew1)|exact HB.out))):w.heap.size ≤ gb403));clear HB;have HB:=n0_;have BK403:=n1_;have GW403:=n2_;have GE403:=n3_;clear n0_ n1_ n2_ n3_;clear hb hbox hg)|((with_reducible refine gate_callee (f:=20) rfl ?_);refine goesL_ (some 6) rfl rfl Try.func20 (by kernel_rfl) rfl #[.slice A0 l0.length c0] rfl (by (try simp only [map_toArray,map_cons,map_nil]);first|done|rfl|(simp only [length_drop,length_take];rfl)) ?_;(with_reducible refine (spec_ProducersValid.calls k _ _ l0 false _ ?side1 ?side2 A3.out).mono ?_);(case side1=>repeat (first|exact (Kd.C_below HR0.out HB.out)|(with_reducible refine Kd.C_alloc ?_ _)|(with_reducible refine Kd.C_drewN ?_ _)|(with_reducible refine Kd.C_drew ?_)));(case side2=>exact HC0.out);rintro e w19 ⟨rfl,hb⟩;refine ⟨_,rfl,?_⟩;have n0_:=Aside0.mk (blk_below (g:=gb403) (o:=.cells #[.bool a1_0,.bool a1_1,.int .i64 a1_2,.int .i64 a1_3,.int .i64 a1_4,.slice A1_5 l1_5.length c1_5] 34 (0,0)) (by (with_reducible repeat (first|refine blk_drewN ?_ _|refine blk_drew ?_|refine blk_alloc ?_ _));exact BK403.out) hb);have n1_:=Aside0.mk (below_step (by repeat (first|(with_reducible first|exact HB.out|apply below_alloc|apply pw_below_drewN|apply below_drew1|refine below_set ?_ GE403.out)|exact HB.out)) hb);clear BK403 HB;have BK403:=n0_;have HB:=n1_;clear n0_ n1_;(try clear hb);(try clear hb2);(try clear hk);(try clear hi)))
  go_ret
  exact ⟨by first|rfl|(simp [errW_none,errW_some] <;> rfl)|(simp [*,errW_none,errW_some] <;> rfl),by repeat (first|(with_reducible first|exact HB.out|apply below_alloc|apply pw_below_drewN|apply below_drew1|refine below_set ?_ GE403.out)|exact HB.out)⟩
end Go.Proofs.Ytkhmopmfbocokaa.T
namespace Go.Proofs.Ytkhmopmfbocokaa.T
open Go.RowKit Go.Proofs.YtkhmopmfbocokaaW.PrintWords Go.Proofs.YtkhmopmfbocokaaW.PrintLast Go.Proofs.YtkhmopmfbocokaaW.PrintMore
attribute [local go_sem] max2_int max_two
set_option linter.unusedVariables false
set_option linter.unusedSimpArgs false
mutual
def spec_l21Put.l0:Nat→List (S39)→List (S39)→Bool→Int→Int→Int→Int→Option ((List (S39)))
 | 0,_,_,_,_,_,_,_=>none
 | k+1,x0,x5,x6,x7,x493000,x493001,x493002=>if x7 < (x0.length:Int) then (if x6=true then (spec_l21Put.j1 k x0 x5 x6 x7 false x493000 x493001 x493002) else (if 0 ≤ x7 then (spec_l21Put.j1 k x0 x5 x6 x7 (decide (((rd_T39 x0 x7).f0) ≥ x493000)) x493000 x493001 x493002) else (none))) else (if x6=true then (some x5) else (if x5.length < 5864062014805 then (some (x5 ++ [(⟨x493000,x493001,x493002⟩:S39)])) else (none)))
def spec_l21Put.j1:Nat→List (S39)→List (S39)→Bool→Int→Bool→Int→Int→Int→Option ((List (S39)))
 | 0,_,_,_,_,_,_,_,_=>none
 | k+1,x0,x5,x6,x7,x26,x493000,x493001,x493002=>if x26=true then (if x5.length < 5864062014805 then ((some (x5 ++ [(⟨x493000,x493001,x493002⟩:S39)]:List (S39))).bind fun y500=>(if 0 ≤ x7 then (if x7 < (x0.length:Int) then (if ((rd_T39 x0 x7).f0)=x493000 then (spec_l21Put.l0 k x0 y500 true (wrap64 (x7+1)) x493000 x493001 x493002) else (if y500.length < 5864062014805 then (spec_l21Put.l0 k x0 (y500 ++ [(⟨(rd_T39 x0 x7).f0,(rd_T39 x0 x7).f1,(rd_T39 x0 x7).f2⟩:S39)]) true (wrap64 (x7+1)) x493000 x493001 x493002) else (none))) else (none)) else (none))) else (none)) else (if 0 ≤ x7 then (if x7 < (x0.length:Int) then (if ((rd_T39 x0 x7).f0)=x493000 then (spec_l21Put.l0 k x0 x5 x6 (wrap64 (x7+1)) x493000 x493001 x493002) else (if x5.length < 5864062014805 then (spec_l21Put.l0 k x0 (x5 ++ [(⟨(rd_T39 x0 x7).f0,(rd_T39 x0 x7).f1,(rd_T39 x0 x7).f2⟩:S39)]) x6 (wrap64 (x7+1)) x493000 x493001 x493002) else (none))) else (none)) else (none))
end
def spec_l21Put.f (k:Nat) (l0:List (S39)) (a1_0:Int) (a1_1:Int) (a1_2:Int):Option ((List (S39))):=spec_l21Put.l0 k l0 (([]:List (S39))) false 0 a1_0 a1_1 a1_2
set_option maxHeartbeats 8000000 in
set_option maxRecDepth 100000 in
theorem spec_l21Put.calls (k:Nat) (A0:Option Addr) (c0:Nat) (l0:List (S39)) (a1_0:Int) (a1_1:Int) (a1_2:Int) (r:List (S39)) (w:World) (hr0:Kd.C k39 w A0 l0.length l0) (hc0:l0.length ≤ c0) (h:spec_l21Put.f k l0 a1_0 a1_1 a1_2=some r) :
  Calls Try.prog 63 #[.slice A0 l0.length c0,.agg #[.int .i64 a1_0,.int .i64 a1_1,.int .i64 a1_2]] w fun e w'=>∃ v0_:Value,e = .returned (v0_)∧Kd.R k39 39 w' w.heap.size (fun _=>True) v0_ r∧Below w.heap.size w w':=by
 have hu39:=Try.underlying39
 have HR0:=Aside0.mk hr0
 have HC0:=Aside0.mk hc0
 clear hr0 hc0
 have HB:=Aside0.mk (Below.refl w.heap.size w)
 have H:(spec_l21Put.l0 k l0 (([]:List (S39))) false 0 a1_0 a1_1 a1_2)=some r:=h
 clear h
 obtain ⟨y493,hy493⟩:∃ y_:List (S39),y_=(([]:List (S39))):=⟨_,rfl⟩
 replace H:(spec_l21Put.l0 k l0 y493 false 0 a1_0 a1_1 a1_2)=some r:=by first|(rw [hy493];with_reducible exact H)|(have H2_:=(Option.bind_some _ _).symm.trans H;rw [hy493];with_reducible exact H2_)|(have H2_:=(Option.bind_some _ _).symm.trans H;with_reducible exact H2_)|with_reducible exact H|(rw [hy493];exact H)|exact H
 have Ny493:=Aside0.mk hy493
 clear hy493
 have H':=Aside0.mk H
 clear H
 go_enter Try.func63,Try.ntmps63
 go_wp2_with (first|((with_reducible refine gate_dst (N:=3) rfl ?_);refine box_event ?hg (N:=3) ?hd (cs:=#[.int .i64 a1_0,.int .i64 a1_1,.int .i64 a1_2]) (t:=39) ?hr ?_;(case hd=>rfl);(case hg=>rfl);(case hr=>first|(go_simp;done)|(go_simp;rfl));intro gb492 hg w3 hbox hb;have n0_:=Aside0.mk (below_step (by repeat (first|(with_reducible first|exact HB.out|apply below_alloc|apply pw_below_drewN|apply below_drew1)|exact HB.out)) hb);have n1_:=Aside0.mk (hbox);have n2_:=Aside0.mk ((by rw [hg];exact (below_size (by repeat (first|(with_reducible first|exact HB.out|apply below_alloc|apply pw_below_drewN|apply below_drew1)|exact HB.out))):w.heap.size ≤ gb492));have n3_:=Aside0.mk ((by rw [hg];exact (below_size (by repeat (first|(with_reducible first|exact HB.out|apply below_alloc|apply pw_below_drewN|apply below_drew1)|exact HB.out))):w.heap.size ≤ gb492));clear HB;have HB:=n0_;have BK492:=n1_;have GW492:=n2_;have GE492:=n3_;clear n0_ n1_ n2_ n3_;clear hb hbox hg)|((with_reducible refine gate_dst (N:=8) rfl ?_);refine Kd.R_lit k39 _ 39 ?hg (N:=8) ?hd (xs:=([]:List (S39))) (inner:=[]) (ok:=fun _=>True) (okp:=fun _=>True) ?hr ?hp (fun _ hk=>hk) trivial (Below.refl _ _) (Nat.le_refl _) (by simp) ?_;(case hd=>rfl);(case hg=>rfl);(case hr=>first|(go_simp;done)|(go_simp;rfl));(case hp=>exact (Reps.none _ _));intro v494 w4 ho5 hb hg_ hnew_;clear hg_ hnew_;(first|rw [← Ny493.out] at ho5|(simp only [Int.reduceToNat] at ho5;rw [← Ny493.out] at ho5));have n0_:=Aside0.mk (Kd.R_lower (Kd.R_newB ho5 (g:=gb492) (o:=.cells #[.int .i64 a1_0,.int .i64 a1_1,.int .i64 a1_2] 39 (0,0)) (by (with_reducible repeat (first|refine blk_drewN ?_ _|refine blk_drew ?_|refine blk_alloc ?_ _));exact BK492.out)) (below_size (by repeat (first|(with_reducible first|exact HB.out|apply below_alloc|apply pw_below_drewN|apply below_drew1|refine below_set ?_ GE492.out)|exact HB.out))));have n1_:=Aside0.mk (blk_below (g:=gb492) (o:=.cells #[.int .i64 a1_0,.int .i64 a1_1,.int .i64 a1_2] 39 (0,0)) (by (with_reducible repeat (first|refine blk_drewN ?_ _|refine blk_drew ?_|refine blk_alloc ?_ _));exact BK492.out) hb);have n2_:=Aside0.mk (below_step (by repeat (first|(with_reducible first|exact HB.out|apply below_alloc|apply pw_below_drewN|apply below_drew1|refine below_set ?_ GE492.out)|exact HB.out)) hb);clear BK492 HB;have HO495:=n0_;have BK492:=n1_;have HB:=n2_;clear n0_ n1_ n2_;clear hb ho5))
 repeat (go_quiet (first|((with_reducible refine gate_dst (N:=3) rfl ?_);refine box_event ?hg (N:=3) ?hd (cs:=#[.int .i64 a1_0,.int .i64 a1_1,.int .i64 a1_2]) (t:=39) ?hr ?_;(case hd=>rfl);(case hg=>rfl);(case hr=>first|(go_simp;done)|(go_simp;rfl));intro gb492 hg w3 hbox hb;have n0_:=Aside0.mk (below_step (by repeat (first|(with_reducible first|exact HB.out|apply below_alloc|apply pw_below_drewN|apply below_drew1)|exact HB.out)) hb);have n1_:=Aside0.mk (hbox);have n2_:=Aside0.mk ((by rw [hg];exact (below_size (by repeat (first|(with_reducible first|exact HB.out|apply below_alloc|apply pw_below_drewN|apply below_drew1)|exact HB.out))):w.heap.size ≤ gb492));have n3_:=Aside0.mk ((by rw [hg];exact (below_size (by repeat (first|(with_reducible first|exact HB.out|apply below_alloc|apply pw_below_drewN|apply below_drew1)|exact HB.out))):w.heap.size ≤ gb492));clear HB;have HB:=n0_;have BK492:=n1_;have GW492:=n2_;have GE492:=n3_;clear n0_ n1_ n2_ n3_;clear hb hbox hg)|((with_reducible refine gate_dst (N:=8) rfl ?_);refine Kd.R_lit k39 _ 39 ?hg (N:=8) ?hd (xs:=([]:List (S39))) (inner:=[]) (ok:=fun _=>True) (okp:=fun _=>True) ?hr ?hp (fun _ hk=>hk) trivial (Below.refl _ _) (Nat.le_refl _) (by simp) ?_;(case hd=>rfl);(case hg=>rfl);(case hr=>first|(go_simp;done)|(go_simp;rfl));(case hp=>exact (Reps.none _ _));intro v494 w4 ho5 hb hg_ hnew_;clear hg_ hnew_;(first|rw [← Ny493.out] at ho5|(simp only [Int.reduceToNat] at ho5;rw [← Ny493.out] at ho5));have n0_:=Aside0.mk (Kd.R_lower (Kd.R_newB ho5 (g:=gb492) (o:=.cells #[.int .i64 a1_0,.int .i64 a1_1,.int .i64 a1_2] 39 (0,0)) (by (with_reducible repeat (first|refine blk_drewN ?_ _|refine blk_drew ?_|refine blk_alloc ?_ _));exact BK492.out)) (below_size (by repeat (first|(with_reducible first|exact HB.out|apply below_alloc|apply pw_below_drewN|apply below_drew1|refine below_set ?_ GE492.out)|exact HB.out))));have n1_:=Aside0.mk (blk_below (g:=gb492) (o:=.cells #[.int .i64 a1_0,.int .i64 a1_1,.int .i64 a1_2] 39 (0,0)) (by (with_reducible repeat (first|refine blk_drewN ?_ _|refine blk_drew ?_|refine blk_alloc ?_ _));exact BK492.out) hb);have n2_:=Aside0.mk (below_step (by repeat (first|(with_reducible first|exact HB.out|apply below_alloc|apply pw_below_drewN|apply below_drew1|refine below_set ?_ GE492.out)|exact HB.out)) hb);clear BK492 HB;have HO495:=n0_;have BK492:=n1_;have HB:=n2_;clear n0_ n1_ n2_;clear hb ho5));try go_wp2_with (first|((with_reducible refine gate_dst (N:=3) rfl ?_);refine box_event ?hg (N:=3) ?hd (cs:=#[.int .i64 a1_0,.int .i64 a1_1,.int .i64 a1_2]) (t:=39) ?hr ?_;(case hd=>rfl);(case hg=>rfl);(case hr=>first|(go_simp;done)|(go_simp;rfl));intro gb492 hg w3 hbox hb;have n0_:=Aside0.mk (below_step (by repeat (first|(with_reducible first|exact HB.out|apply below_alloc|apply pw_below_drewN|apply below_drew1)|exact HB.out)) hb);have n1_:=Aside0.mk (hbox);have n2_:=Aside0.mk ((by rw [hg];exact (below_size (by repeat (first|(with_reducible first|exact HB.out|apply below_alloc|apply pw_below_drewN|apply below_drew1)|exact HB.out))):w.heap.size ≤ gb492));have n3_:=Aside0.mk ((by rw [hg];exact (below_size (by repeat (first|(with_reducible first|exact HB.out|apply below_alloc|apply pw_below_drewN|apply below_drew1)|exact HB.out))):w.heap.size ≤ gb492));clear HB;have HB:=n0_;have BK492:=n1_;have GW492:=n2_;have GE492:=n3_;clear n0_ n1_ n2_ n3_;clear hb hbox hg)|((with_reducible refine gate_dst (N:=8) rfl ?_);refine Kd.R_lit k39 _ 39 ?hg (N:=8) ?hd (xs:=([]:List (S39))) (inner:=[]) (ok:=fun _=>True) (okp:=fun _=>True) ?hr ?hp (fun _ hk=>hk) trivial (Below.refl _ _) (Nat.le_refl _) (by simp) ?_;(case hd=>rfl);(case hg=>rfl);(case hr=>first|(go_simp;done)|(go_simp;rfl));(case hp=>exact (Reps.none _ _));intro v494 w4 ho5 hb hg_ hnew_;clear hg_ hnew_;(first|rw [← Ny493.out] at ho5|(simp only [Int.reduceToNat] at ho5;rw [← Ny493.out] at ho5));have n0_:=Aside0.mk (Kd.R_lower (Kd.R_newB ho5 (g:=gb492) (o:=.cells #[.int .i64 a1_0,.int .i64 a1_1,.int .i64 a1_2] 39 (0,0)) (by (with_reducible repeat (first|refine blk_drewN ?_ _|refine blk_drew ?_|refine blk_alloc ?_ _));exact BK492.out)) (below_size (by repeat (first|(with_reducible first|exact HB.out|apply below_alloc|apply pw_below_drewN|apply below_drew1|refine below_set ?_ GE492.out)|exact HB.out))));have n1_:=Aside0.mk (blk_below (g:=gb492) (o:=.cells #[.int .i64 a1_0,.int .i64 a1_1,.int .i64 a1_2] 39 (0,0)) (by (with_reducible repeat (first|refine blk_drewN ?_ _|refine blk_drew ?_|refine blk_alloc ?_ _));exact BK492.out) hb);have n2_:=Aside0.mk (below_step (by repeat (first|(with_reducible first|exact HB.out|apply below_alloc|apply pw_below_drewN|apply below_drew1|refine below_set ?_ GE492.out)|exact HB.out)) hb);clear BK492 HB;have HO495:=n0_;have BK492:=n1_;have HB:=n2_;clear n0_ n1_ n2_;clear hb ho5)))
 go_loopg [5,6,7] k (fun kq v5 v6 v7 w'=>∃ (x5_1:List (S39)) (x6_1:Bool) (x7_1:Int),v6 = .bool x6_1∧v7 = .int .i64 x7_1∧Aside0 (spec_l21Put.l0 kq l0 x5_1 x6_1 x7_1 a1_0 a1_1 a1_2=some r)∧Aside0 (kq ≤ k)∧Aside0 (Kd.R k39 39 w' w.heap.size (fun k_=>k_ ≠ gb492) v5 x5_1)∧Aside0 (w'.heap[gb492]? = some (.cells #[.int .i64 a1_0,.int .i64 a1_1,.int .i64 a1_2] 39 (0,0)))∧Aside0 (Below w.heap.size w w'))
 case atStart=>exact ⟨(y493),(false),(0),(by first|rfl|(simp;done)|(simp [*];done)),(by first|rfl|(simp;done)|(simp [*];done)),H',⟨Nat.le_refl _⟩,⟨by (with_reducible repeat (first|apply Kd.R_alloc|apply Kd.R_drewN|apply Kd.R_drew));exact Kd.R_mono HO495.out (fun _ hk=>hk.2)⟩,⟨by (with_reducible repeat (first|refine blk_drewN ?_ _|refine blk_drew ?_|refine blk_alloc ?_ _));exact BK492.out⟩,⟨by repeat (first|(with_reducible first|exact HB.out|apply below_alloc|apply pw_below_drewN|apply below_drew1|refine below_set ?_ GE492.out)|exact HB.out)⟩⟩
 case round=>
  clear H'
  try clear p2
  obtain ⟨x5_1,x6_1,x7_1,rfl,rfl,HA,HK1,HO_5,BK492,HB⟩:=hrel
  cases gk with
  | zero=>exact absurd HA.out (by simp [spec_l21Put.l0])
  | succ k1=>
   have H:=HA.out
   clear HA
   simp only [spec_l21Put.l0] at H
   by_cases c6:x7_1 < (l0.length:Int)
   ·rw [if_pos c6] at H
    have c6b0:decide (x7_1 < (l0.length:Int))=true:=decide_eq_true c6
    clear c6
    have HC7:=Aside0.mk H
    clear H
    go_upto_region 6 with (fail)
    repeat (go_quiet (fail);go_upto_region 6 with (fail))
    go_cut [26] (fun v26 wc=>∃ (kq:Nat) (x26_6:Bool),v26 = .bool x26_6∧Aside0 (spec_l21Put.j1 kq l0 x5_1 x6_1 x7_1 x26_6 a1_0 a1_1 a1_2=some r)∧Aside0 (kq ≤ k1)∧Aside0 (Kd.R k39 39 wc w.heap.size (fun k_=>k_ ≠ gb492) u5 x5_1)∧Aside0 (wc.heap[gb492]? = some (.cells #[.int .i64 a1_0,.int .i64 a1_1,.int .i64 a1_2] 39 (0,0)))∧Aside0 (Below w.heap.size w wc))
    case first=>
     have H:=HC7.out
     clear HC7
     by_cases c8:x6_1=true
     ·subst c8
      have H1:(spec_l21Put.j1 k1 l0 x5_1 true x7_1 false a1_0 a1_1 a1_2)=some r:=by rw [if_pos rfl] at H;exact H
      clear H
      have H:=H1
      clear H1
      have H':=Aside0.mk H
      clear H
      go_wp2
      repeat (go_quiet (fail);try go_wp2)
      go_meet
      case rel=>exact ⟨_,(false),(by first|rfl|(simp;done)|(simp [*];done)),H',⟨by have:=HK1.out;first|omega|exact Nat.le_refl _⟩,⟨by (with_reducible repeat (first|apply Kd.R_alloc|apply Kd.R_drewN|apply Kd.R_drew));exact HO_5.out⟩,⟨by (with_reducible repeat (first|refine blk_drewN ?_ _|refine blk_drew ?_|refine blk_alloc ?_ _));exact BK492.out⟩,⟨by repeat (first|(with_reducible first|exact HB.out|apply below_alloc|apply pw_below_drewN|apply below_drew1|refine below_set ?_ GE492.out)|exact HB.out)⟩⟩
     ·replace c8:=Bool.eq_false_iff.mpr c8
      subst c8
      have H1:(if 0 ≤ x7_1 then (spec_l21Put.j1 k1 l0 x5_1 false x7_1 (decide (((rd_T39 l0 x7_1).f0) ≥ a1_0)) a1_0 a1_1 a1_2) else (none))=some r:=by rw [if_neg (show ¬ (false=true) by decide)] at H;exact H
      clear H
      have H:=H1
      clear H1
      by_cases c9 : 0 ≤ x7_1
      ·rw [if_pos c9] at H
       have c9b0:decide (0 ≤ x7_1)=true:=decide_eq_true c9
       clear c9
       (first|rw [c9b0]|(simp only [i64_w,i32_w];rw [c9b0])|skip)
       have H':=Aside0.mk H
       clear H
       have p499 : 0 ≤ (x7_1:Int):=of_decide_eq_true (by first|(with_reducible assumption)|assumption)
       have q499:x7_1 < (l0.length:Int):=of_decide_eq_true (by first|(with_reducible assumption)|assumption)
       obtain ⟨ad499,e499,hx499_0,hx499_1,hx499_2⟩:=at_T39 HR0.out x7_1 p499 q499
       cases e499
       replace hx499_0:=(HB.out.cell (World.block_lt_of_cell? w _ hx499_0)).trans hx499_0
       replace hx499_1:=(HB.out.cell (World.block_lt_of_cell? w _ hx499_1)).trans hx499_1
       replace hx499_2:=(HB.out.cell (World.block_lt_of_cell? w _ hx499_2)).trans hx499_2
       replace p499:=eq_true p499
       replace q499:=eq_true q499
       have hcz10_0:wr.cell? ⟨gb492,0,none⟩=some (.int .i64 a1_0):=(blk_cell BK492.out 0).trans rfl
       have hcz10_1:wr.cell? ⟨gb492,1,none⟩=some (.int .i64 a1_1):=(blk_cell BK492.out 1).trans rfl
       have hcz10_2:wr.cell? ⟨gb492,2,none⟩=some (.int .i64 a1_2):=(blk_cell BK492.out 2).trans rfl
       have hfz10_0:=blk_frozen BK492.out 0
       have hfz10_1:=blk_frozen BK492.out 1
       have hfz10_2:=blk_frozen BK492.out 2
       go_wp2
       repeat (go_quiet (fail);try go_wp2)
       go_meet
       case rel=>exact ⟨_,(decide (((rd_T39 l0 x7_1).f0) ≥ a1_0)),(by first|rfl|(simp;done)|(simp [*];done)),H',⟨by have:=HK1.out;first|omega|exact Nat.le_refl _⟩,⟨by (with_reducible repeat (first|apply Kd.R_alloc|apply Kd.R_drewN|apply Kd.R_drew));exact HO_5.out⟩,⟨by (with_reducible repeat (first|refine blk_drewN ?_ _|refine blk_drew ?_|refine blk_alloc ?_ _));exact BK492.out⟩,⟨by repeat (first|(with_reducible first|exact HB.out|apply below_alloc|apply pw_below_drewN|apply below_drew1|refine below_set ?_ GE492.out)|exact HB.out)⟩⟩
      ·rw [if_neg c9] at H
       exact absurd H (by simp)
    case rest=>
     clear HC7
     try clear p2
     try clear p4
     try clear q4
     try clear hx4
     try clear c6
     try clear c6b0
     try clear c8
     try clear c9
     try clear c9b0
     try clear hcz10_0
     try clear hcz10_1
     try clear hcz10_2
     try clear hfz10_0
     try clear hfz10_1
     try clear hfz10_2
     try clear hx499_0
     try clear hx499_1
     try clear hx499_2
     try clear p2
     try clear p499
     try clear q499
     obtain ⟨kq,x26_6,rfl,HA,HJ6,HO_5,BK492,HB⟩:=hcut
     cases kq with
     | zero=>exact absurd HA.out (by simp [spec_l21Put.j1])
     | succ kj6=>
      have H:=HA.out
      clear HA
      simp only [spec_l21Put.j1] at H
      by_cases c11:x26_6=true
      ·subst c11
       have H1:(if x5_1.length < 5864062014805 then ((some (x5_1 ++ [(⟨a1_0,a1_1,a1_2⟩:S39)]:List (S39))).bind fun y500=>(if 0 ≤ x7_1 then (if x7_1 < (l0.length:Int) then (if ((rd_T39 l0 x7_1).f0)=a1_0 then (spec_l21Put.l0 kj6 l0 y500 true (wrap64 (x7_1+1)) a1_0 a1_1 a1_2) else (if y500.length < 5864062014805 then (spec_l21Put.l0 kj6 l0 (y500 ++ [(⟨(rd_T39 l0 x7_1).f0,(rd_T39 l0 x7_1).f1,(rd_T39 l0 x7_1).f2⟩:S39)]) true (wrap64 (x7_1+1)) a1_0 a1_1 a1_2) else (none))) else (none)) else (none))) else (none))=some r:=by rw [if_pos rfl] at H;exact H
       clear H
       have H:=H1
       clear H1
       by_cases c12:x5_1.length < 5864062014805
       ·rw [if_pos c12] at H
        have LMc12:=Aside0.mk c12
        clear c12
        obtain ⟨y500,hy500⟩:∃ y_:List (S39),y_=(x5_1 ++ [(⟨a1_0,a1_1,a1_2⟩:S39)]):=⟨_,rfl⟩
        replace H:(if 0 ≤ x7_1 then (if x7_1 < (l0.length:Int) then (if ((rd_T39 l0 x7_1).f0)=a1_0 then (spec_l21Put.l0 kj6 l0 y500 true (wrap64 (x7_1+1)) a1_0 a1_1 a1_2) else (if y500.length < 5864062014805 then (spec_l21Put.l0 kj6 l0 (y500 ++ [(⟨(rd_T39 l0 x7_1).f0,(rd_T39 l0 x7_1).f1,(rd_T39 l0 x7_1).f2⟩:S39)]) true (wrap64 (x7_1+1)) a1_0 a1_1 a1_2) else (none))) else (none)) else (none))=some r:=by first|(rw [hy500];with_reducible exact H)|(have H2_:=(Option.bind_some _ _).symm.trans H;rw [hy500];with_reducible exact H2_)|(have H2_:=(Option.bind_some _ _).symm.trans H;with_reducible exact H2_)|with_reducible exact H|(rw [hy500];exact H)|exact H
        have Ny500:=Aside0.mk hy500
        clear hy500
        by_cases c13 : 0 ≤ x7_1
        ·rw [if_pos c13] at H
         have c13b0:decide (0 ≤ x7_1)=true:=decide_eq_true c13
         clear c13
         by_cases c14:x7_1 < (l0.length:Int)
         ·rw [if_pos c14] at H
          have c14b0:decide (x7_1 < (l0.length:Int))=true:=decide_eq_true c14
          clear c14
          by_cases c15:((rd_T39 l0 x7_1).f0)=a1_0
          ·rw [if_pos c15] at H
           have c15b0:(((rd_T39 l0 x7_1).f0) == a1_0)=true:=beq_iff_eq.mpr c15
           have c15b1:(((rd_T39 l0 x7_1).f0) != a1_0)=false:=bne_eq_false_iff_eq.mpr c15
           clear c15
           have H':=Aside0.mk H
           clear H
           have hcz16_0:wc.cell? ⟨gb492,0,none⟩=some (.int .i64 a1_0):=(blk_cell BK492.out 0).trans rfl
           have hcz16_1:wc.cell? ⟨gb492,1,none⟩=some (.int .i64 a1_1):=(blk_cell BK492.out 1).trans rfl
           have hcz16_2:wc.cell? ⟨gb492,2,none⟩=some (.int .i64 a1_2):=(blk_cell BK492.out 2).trans rfl
           have hfz16_0:=blk_frozen BK492.out 0
           have hfz16_1:=blk_frozen BK492.out 1
           have hfz16_2:=blk_frozen BK492.out 2
           go_wp2_with (first|((with_reducible refine gate_builtin (b:=.append) (xs:=#[.tmp 27,.tmp 29]) rfl ?_);at_builtin;refine Kd.R_append k39 (w0:=w) w.heap.size rfl (.tmp 27) (.tmp 29) 23 39 (.agg #[(.int .i64 0),(.int .i64 0),(.int .i64 0)]) 24 rfl Try.underlying23 info39 rfl (by decide) (by omega) u5 x5_1 (⟨a1_0,a1_1,a1_2⟩:S39) [.int .i64 a1_0,.int .i64 a1_1,.int .i64 a1_2] (fun k_=>k_ ≠ gb492) (fun _=>False) rfl rfl ?aP (fun _ hk=>hk.elim) ?aF ?aO ?aB ?aS ?aL ?_;(case aP=>exact k39_mkM _ _ _ (⟨a1_0,a1_1,a1_2⟩:S39));(case aB=>exact (by repeat (first|(with_reducible first|exact HB.out|apply below_alloc|apply pw_below_drewN|apply below_drew1|refine below_set ?_ GE492.out)|exact HB.out)));(case aF=>exact (fun k_ hk=>Kd.freshB (g:=gb492) (o:=.cells #[.int .i64 a1_0,.int .i64 a1_1,.int .i64 a1_2] 39 (0,0)) (by (with_reducible repeat (first|refine blk_drewN ?_ _|refine blk_drew ?_|refine blk_alloc ?_ _));exact BK492.out) k_ hk));(case aO=>exact (by (with_reducible repeat (first|apply Kd.R_alloc|apply Kd.R_drewN|apply Kd.R_drew));exact HO_5.out));(case aS=>exact (below_size (by repeat (first|(with_reducible first|exact HB.out|apply below_alloc|apply pw_below_drewN|apply below_drew1|refine below_set ?_ GE492.out)|exact HB.out))));(case aL=>have:=LMc12.out;omega);intro v501 w17 ho hb hg hat;rw [← Ny500.out] at ho;have n0_:=Aside0.mk (blk_grown (g:=gb492) (o:=.cells #[.int .i64 a1_0,.int .i64 a1_1,.int .i64 a1_2] 39 (0,0)) (by (with_reducible repeat (first|refine blk_drewN ?_ _|refine blk_drew ?_|refine blk_alloc ?_ _));exact BK492.out) hg (Kd.R_away HO_5.out (fun _ hk=>hk)));have n1_:=Aside0.mk (hb);have n2_:=Aside0.mk (ho);clear BK492 HB HO_5;have BK492:=n0_;have HB:=n1_;have HO502:=n2_;clear n0_ n1_ n2_;clear ho hb hg hat;have p503 : 0 ≤ (x7_1:Int):=of_decide_eq_true (by first|(with_reducible assumption)|assumption);have q503:x7_1 < (l0.length:Int):=of_decide_eq_true (by first|(with_reducible assumption)|assumption);obtain ⟨ad503,e503,hx503_0,hx503_1,hx503_2⟩:=at_T39 HR0.out x7_1 p503 q503;cases e503;replace hx503_0:=(HB.out.cell (World.block_lt_of_cell? w _ hx503_0)).trans hx503_0;replace hx503_1:=(HB.out.cell (World.block_lt_of_cell? w _ hx503_1)).trans hx503_1;replace hx503_2:=(HB.out.cell (World.block_lt_of_cell? w _ hx503_2)).trans hx503_2;replace p503:=eq_true p503;replace q503:=eq_true q503;have hcz18_0:w17.cell? ⟨gb492,0,none⟩=some (.int .i64 a1_0):=(blk_cell BK492.out 0).trans rfl;have hcz18_1:w17.cell? ⟨gb492,1,none⟩=some (.int .i64 a1_1):=(blk_cell BK492.out 1).trans rfl;have hcz18_2:w17.cell? ⟨gb492,2,none⟩=some (.int .i64 a1_2):=(blk_cell BK492.out 2).trans rfl;have hfz18_0:=blk_frozen BK492.out 0;have hfz18_1:=blk_frozen BK492.out 1;have hfz18_2:=blk_frozen BK492.out 2))
           repeat (go_quiet (first|((with_reducible refine gate_builtin (b:=.append) (xs:=#[.tmp 27,.tmp 29]) rfl ?_);at_builtin;refine Kd.R_append k39 (w0:=w) w.heap.size rfl (.tmp 27) (.tmp 29) 23 39 (.agg #[(.int .i64 0),(.int .i64 0),(.int .i64 0)]) 24 rfl Try.underlying23 info39 rfl (by decide) (by omega) u5 x5_1 (⟨a1_0,a1_1,a1_2⟩:S39) [.int .i64 a1_0,.int .i64 a1_1,.int .i64 a1_2] (fun k_=>k_ ≠ gb492) (fun _=>False) rfl rfl ?aP (fun _ hk=>hk.elim) ?aF ?aO ?aB ?aS ?aL ?_;(case aP=>exact k39_mkM _ _ _ (⟨a1_0,a1_1,a1_2⟩:S39));(case aB=>exact (by repeat (first|(with_reducible first|exact HB.out|apply below_alloc|apply pw_below_drewN|apply below_drew1|refine below_set ?_ GE492.out)|exact HB.out)));(case aF=>exact (fun k_ hk=>Kd.freshB (g:=gb492) (o:=.cells #[.int .i64 a1_0,.int .i64 a1_1,.int .i64 a1_2] 39 (0,0)) (by (with_reducible repeat (first|refine blk_drewN ?_ _|refine blk_drew ?_|refine blk_alloc ?_ _));exact BK492.out) k_ hk));(case aO=>exact (by (with_reducible repeat (first|apply Kd.R_alloc|apply Kd.R_drewN|apply Kd.R_drew));exact HO_5.out));(case aS=>exact (below_size (by repeat (first|(with_reducible first|exact HB.out|apply below_alloc|apply pw_below_drewN|apply below_drew1|refine below_set ?_ GE492.out)|exact HB.out))));(case aL=>have:=LMc12.out;omega);intro v501 w17 ho hb hg hat;rw [← Ny500.out] at ho;have n0_:=Aside0.mk (blk_grown (g:=gb492) (o:=.cells #[.int .i64 a1_0,.int .i64 a1_1,.int .i64 a1_2] 39 (0,0)) (by (with_reducible repeat (first|refine blk_drewN ?_ _|refine blk_drew ?_|refine blk_alloc ?_ _));exact BK492.out) hg (Kd.R_away HO_5.out (fun _ hk=>hk)));have n1_:=Aside0.mk (hb);have n2_:=Aside0.mk (ho);clear BK492 HB HO_5;have BK492:=n0_;have HB:=n1_;have HO502:=n2_;clear n0_ n1_ n2_;clear ho hb hg hat;have p503 : 0 ≤ (x7_1:Int):=of_decide_eq_true (by first|(with_reducible assumption)|assumption);have q503:x7_1 < (l0.length:Int):=of_decide_eq_true (by first|(with_reducible assumption)|assumption);obtain ⟨ad503,e503,hx503_0,hx503_1,hx503_2⟩:=at_T39 HR0.out x7_1 p503 q503;cases e503;replace hx503_0:=(HB.out.cell (World.block_lt_of_cell? w _ hx503_0)).trans hx503_0;replace hx503_1:=(HB.out.cell (World.block_lt_of_cell? w _ hx503_1)).trans hx503_1;replace hx503_2:=(HB.out.cell (World.block_lt_of_cell? w _ hx503_2)).trans hx503_2;replace p503:=eq_true p503;replace q503:=eq_true q503;have hcz18_0:w17.cell? ⟨gb492,0,none⟩=some (.int .i64 a1_0):=(blk_cell BK492.out 0).trans rfl;have hcz18_1:w17.cell? ⟨gb492,1,none⟩=some (.int .i64 a1_1):=(blk_cell BK492.out 1).trans rfl;have hcz18_2:w17.cell? ⟨gb492,2,none⟩=some (.int .i64 a1_2):=(blk_cell BK492.out 2).trans rfl;have hfz18_0:=blk_frozen BK492.out 0;have hfz18_1:=blk_frozen BK492.out 1;have hfz18_2:=blk_frozen BK492.out 2));try go_wp2_with (first|((with_reducible refine gate_builtin (b:=.append) (xs:=#[.tmp 27,.tmp 29]) rfl ?_);at_builtin;refine Kd.R_append k39 (w0:=w) w.heap.size rfl (.tmp 27) (.tmp 29) 23 39 (.agg #[(.int .i64 0),(.int .i64 0),(.int .i64 0)]) 24 rfl Try.underlying23 info39 rfl (by decide) (by omega) u5 x5_1 (⟨a1_0,a1_1,a1_2⟩:S39) [.int .i64 a1_0,.int .i64 a1_1,.int .i64 a1_2] (fun k_=>k_ ≠ gb492) (fun _=>False) rfl rfl ?aP (fun _ hk=>hk.elim) ?aF ?aO ?aB ?aS ?aL ?_;(case aP=>exact k39_mkM _ _ _ (⟨a1_0,a1_1,a1_2⟩:S39));(case aB=>exact (by repeat (first|(with_reducible first|exact HB.out|apply below_alloc|apply pw_below_drewN|apply below_drew1|refine below_set ?_ GE492.out)|exact HB.out)));(case aF=>exact (fun k_ hk=>Kd.freshB (g:=gb492) (o:=.cells #[.int .i64 a1_0,.int .i64 a1_1,.int .i64 a1_2] 39 (0,0)) (by (with_reducible repeat (first|refine blk_drewN ?_ _|refine blk_drew ?_|refine blk_alloc ?_ _));exact BK492.out) k_ hk));(case aO=>exact (by (with_reducible repeat (first|apply Kd.R_alloc|apply Kd.R_drewN|apply Kd.R_drew));exact HO_5.out));(case aS=>exact (below_size (by repeat (first|(with_reducible first|exact HB.out|apply below_alloc|apply pw_below_drewN|apply below_drew1|refine below_set ?_ GE492.out)|exact HB.out))));(case aL=>have:=LMc12.out;omega);intro v501 w17 ho hb hg hat;rw [← Ny500.out] at ho;have n0_:=Aside0.mk (blk_grown (g:=gb492) (o:=.cells #[.int .i64 a1_0,.int .i64 a1_1,.int .i64 a1_2] 39 (0,0)) (by (with_reducible repeat (first|refine blk_drewN ?_ _|refine blk_drew ?_|refine blk_alloc ?_ _));exact BK492.out) hg (Kd.R_away HO_5.out (fun _ hk=>hk)));have n1_:=Aside0.mk (hb);have n2_:=Aside0.mk (ho);clear BK492 HB HO_5;have BK492:=n0_;have HB:=n1_;have HO502:=n2_;clear n0_ n1_ n2_;clear ho hb hg hat;have p503 : 0 ≤ (x7_1:Int):=of_decide_eq_true (by first|(with_reducible assumption)|assumption);have q503:x7_1 < (l0.length:Int):=of_decide_eq_true (by first|(with_reducible assumption)|assumption);obtain ⟨ad503,e503,hx503_0,hx503_1,hx503_2⟩:=at_T39 HR0.out x7_1 p503 q503;cases e503;replace hx503_0:=(HB.out.cell (World.block_lt_of_cell? w _ hx503_0)).trans hx503_0;replace hx503_1:=(HB.out.cell (World.block_lt_of_cell? w _ hx503_1)).trans hx503_1;replace hx503_2:=(HB.out.cell (World.block_lt_of_cell? w _ hx503_2)).trans hx503_2;replace p503:=eq_true p503;replace q503:=eq_true q503;have hcz18_0:w17.cell? ⟨gb492,0,none⟩=some (.int .i64 a1_0):=(blk_cell BK492.out 0).trans rfl;have hcz18_1:w17.cell? ⟨gb492,1,none⟩=some (.int .i64 a1_1):=(blk_cell BK492.out 1).trans rfl;have hcz18_2:w17.cell? ⟨gb492,2,none⟩=some (.int .i64 a1_2):=(blk_cell BK492.out 2).trans rfl;have hfz18_0:=blk_frozen BK492.out 0;have hfz18_1:=blk_frozen BK492.out 1;have hfz18_2:=blk_frozen BK492.out 2)))
           go_roundg kj6
           case measure=>have:=HK1.out;have:=HJ6.out;omega
           case rel=>exact ⟨(y500),(true),(wrap64 (x7_1+1)),(by first|rfl|(simp;done)|(simp [*];done)),(by first|rfl|(simp;done)|(simp [*];done)),H',⟨by have:=HK1.out;have:=HJ6.out;omega⟩,⟨by (with_reducible repeat (first|apply Kd.R_alloc|apply Kd.R_drewN|apply Kd.R_drew));exact HO502.out⟩,⟨by (with_reducible repeat (first|refine blk_drewN ?_ _|refine blk_drew ?_|refine blk_alloc ?_ _));exact BK492.out⟩,⟨by repeat (first|(with_reducible first|exact HB.out|apply below_alloc|apply pw_below_drewN|apply below_drew1|refine below_set ?_ GE492.out)|exact HB.out)⟩⟩
          ·rw [if_neg c15] at H
           have c15b0:(((rd_T39 l0 x7_1).f0) == a1_0)=false:=beq_eq_false_iff_ne.mpr c15
           have c15b1:(((rd_T39 l0 x7_1).f0) != a1_0)=true:=bne_iff_ne.mpr c15
           by_cases c19:y500.length < 5864062014805
           ·rw [if_pos c19] at H
            have LMc19:=Aside0.mk c19
            clear c19
            obtain ⟨y505,hy505⟩:∃ y_:List (S39),y_=(y500 ++ [(⟨(rd_T39 l0 x7_1).f0,(rd_T39 l0 x7_1).f1,(rd_T39 l0 x7_1).f2⟩:S39)]):=⟨_,rfl⟩
            replace H:(spec_l21Put.l0 kj6 l0 y505 true (wrap64 (x7_1+1)) a1_0 a1_1 a1_2)=some r:=by first|(rw [hy505];with_reducible exact H)|(have H2_:=(Option.bind_some _ _).symm.trans H;rw [hy505];with_reducible exact H2_)|(have H2_:=(Option.bind_some _ _).symm.trans H;with_reducible exact H2_)|with_reducible exact H|(rw [hy505];exact H)|exact H
            have Ny505:=Aside0.mk hy505
            clear hy505
            have H':=Aside0.mk H
            clear H
            have hcz20_0:wc.cell? ⟨gb492,0,none⟩=some (.int .i64 a1_0):=(blk_cell BK492.out 0).trans rfl
            have hcz20_1:wc.cell? ⟨gb492,1,none⟩=some (.int .i64 a1_1):=(blk_cell BK492.out 1).trans rfl
            have hcz20_2:wc.cell? ⟨gb492,2,none⟩=some (.int .i64 a1_2):=(blk_cell BK492.out 2).trans rfl
            have hfz20_0:=blk_frozen BK492.out 0
            have hfz20_1:=blk_frozen BK492.out 1
            have hfz20_2:=blk_frozen BK492.out 2
            go_wp2_with (first|((with_reducible refine gate_builtin (b:=.append) (xs:=#[.tmp 27,.tmp 29]) rfl ?_);at_builtin;refine Kd.R_append k39 (w0:=w) w.heap.size rfl (.tmp 27) (.tmp 29) 23 39 (.agg #[(.int .i64 0),(.int .i64 0),(.int .i64 0)]) 24 rfl Try.underlying23 info39 rfl (by decide) (by omega) u5 x5_1 (⟨a1_0,a1_1,a1_2⟩:S39) [.int .i64 a1_0,.int .i64 a1_1,.int .i64 a1_2] (fun k_=>k_ ≠ gb492) (fun _=>False) rfl rfl ?aP (fun _ hk=>hk.elim) ?aF ?aO ?aB ?aS ?aL ?_;(case aP=>exact k39_mkM _ _ _ (⟨a1_0,a1_1,a1_2⟩:S39));(case aB=>exact (by repeat (first|(with_reducible first|exact HB.out|apply below_alloc|apply pw_below_drewN|apply below_drew1|refine below_set ?_ GE492.out)|exact HB.out)));(case aF=>exact (fun k_ hk=>Kd.freshB (g:=gb492) (o:=.cells #[.int .i64 a1_0,.int .i64 a1_1,.int .i64 a1_2] 39 (0,0)) (by (with_reducible repeat (first|refine blk_drewN ?_ _|refine blk_drew ?_|refine blk_alloc ?_ _));exact BK492.out) k_ hk));(case aO=>exact (by (with_reducible repeat (first|apply Kd.R_alloc|apply Kd.R_drewN|apply Kd.R_drew));exact HO_5.out));(case aS=>exact (below_size (by repeat (first|(with_reducible first|exact HB.out|apply below_alloc|apply pw_below_drewN|apply below_drew1|refine below_set ?_ GE492.out)|exact HB.out))));(case aL=>have:=LMc12.out;omega);intro v501 w21 ho hb hg hat;rw [← Ny500.out] at ho;have n0_:=Aside0.mk (blk_grown (g:=gb492) (o:=.cells #[.int .i64 a1_0,.int .i64 a1_1,.int .i64 a1_2] 39 (0,0)) (by (with_reducible repeat (first|refine blk_drewN ?_ _|refine blk_drew ?_|refine blk_alloc ?_ _));exact BK492.out) hg (Kd.R_away HO_5.out (fun _ hk=>hk)));have n1_:=Aside0.mk (hb);have n2_:=Aside0.mk (ho);clear BK492 HB HO_5;have BK492:=n0_;have HB:=n1_;have HO502:=n2_;clear n0_ n1_ n2_;clear ho hb hg hat;have p503 : 0 ≤ (x7_1:Int):=of_decide_eq_true (by first|(with_reducible assumption)|assumption);have q503:x7_1 < (l0.length:Int):=of_decide_eq_true (by first|(with_reducible assumption)|assumption);obtain ⟨ad503,e503,hx503_0,hx503_1,hx503_2⟩:=at_T39 HR0.out x7_1 p503 q503;cases e503;replace hx503_0:=(HB.out.cell (World.block_lt_of_cell? w _ hx503_0)).trans hx503_0;replace hx503_1:=(HB.out.cell (World.block_lt_of_cell? w _ hx503_1)).trans hx503_1;replace hx503_2:=(HB.out.cell (World.block_lt_of_cell? w _ hx503_2)).trans hx503_2;replace p503:=eq_true p503;replace q503:=eq_true q503;have hcz22_0:w21.cell? ⟨gb492,0,none⟩=some (.int .i64 a1_0):=(blk_cell BK492.out 0).trans rfl;have hcz22_1:w21.cell? ⟨gb492,1,none⟩=some (.int .i64 a1_1):=(blk_cell BK492.out 1).trans rfl;have hcz22_2:w21.cell? ⟨gb492,2,none⟩=some (.int .i64 a1_2):=(blk_cell BK492.out 2).trans rfl;have hfz22_0:=blk_frozen BK492.out 0;have hfz22_1:=blk_frozen BK492.out 1;have hfz22_2:=blk_frozen BK492.out 2;have p504 : 0 ≤ (x7_1:Int):=of_decide_eq_true (by first|(with_reducible assumption)|assumption);have q504:x7_1 < (l0.length:Int):=of_decide_eq_true (by first|(with_reducible assumption)|assumption);obtain ⟨ad504,e504,hx504_0,hx504_1,hx504_2⟩:=at_T39 HR0.out x7_1 p504 q504;obtain rfl:ad503=ad504:=(by injection e504);replace hx504_0:=(HB.out.cell (World.block_lt_of_cell? w _ hx504_0)).trans hx504_0;replace hx504_1:=(HB.out.cell (World.block_lt_of_cell? w _ hx504_1)).trans hx504_1;replace hx504_2:=(HB.out.cell (World.block_lt_of_cell? w _ hx504_2)).trans hx504_2;replace p504:=eq_true p504;replace q504:=eq_true q504)|((with_reducible refine gate_builtin (b:=.append) (xs:=#[.tmp 39,.tmp 44]) rfl ?_);at_builtin;refine Kd.R_append k39 (w0:=w) w.heap.size rfl (.tmp 39) (.tmp 44) 23 39 (.agg #[(.int .i64 0),(.int .i64 0),(.int .i64 0)]) 24 rfl Try.underlying23 info39 rfl (by decide) (by omega) v501 y500 (⟨(rd_T39 l0 x7_1).f0,(rd_T39 l0 x7_1).f1,(rd_T39 l0 x7_1).f2⟩:S39) [.int .i64 ((rd_T39 l0 x7_1).f0),.int .i64 ((rd_T39 l0 x7_1).f1),.int .i64 ((rd_T39 l0 x7_1).f2)] (fun k_=>k_ ≠ gb492) (fun _=>False) rfl rfl ?aP (fun _ hk=>hk.elim) ?aF ?aO ?aB ?aS ?aL ?_;(case aP=>exact k39_mkM _ _ _ (⟨(rd_T39 l0 x7_1).f0,(rd_T39 l0 x7_1).f1,(rd_T39 l0 x7_1).f2⟩:S39));(case aB=>exact (by repeat (first|(with_reducible first|exact HB.out|apply below_alloc|apply pw_below_drewN|apply below_drew1|refine below_set ?_ GE492.out)|exact HB.out)));(case aF=>exact (fun k_ hk=>Kd.freshB (g:=gb492) (o:=.cells #[.int .i64 a1_0,.int .i64 a1_1,.int .i64 a1_2] 39 (0,0)) (by (with_reducible repeat (first|refine blk_drewN ?_ _|refine blk_drew ?_|refine blk_alloc ?_ _));exact BK492.out) k_ hk));(case aO=>exact (by (with_reducible repeat (first|apply Kd.R_alloc|apply Kd.R_drewN|apply Kd.R_drew));exact HO502.out));(case aS=>exact (below_size (by repeat (first|(with_reducible first|exact HB.out|apply below_alloc|apply pw_below_drewN|apply below_drew1|refine below_set ?_ GE492.out)|exact HB.out))));(case aL=>have:=LMc19.out;omega);intro v506 w23 ho hb hg hat;rw [← Ny505.out] at ho;have n0_:=Aside0.mk (blk_grown (g:=gb492) (o:=.cells #[.int .i64 a1_0,.int .i64 a1_1,.int .i64 a1_2] 39 (0,0)) (by (with_reducible repeat (first|refine blk_drewN ?_ _|refine blk_drew ?_|refine blk_alloc ?_ _));exact BK492.out) hg (Kd.R_away HO502.out (fun _ hk=>hk)));have n1_:=Aside0.mk (hb);have n2_:=Aside0.mk (ho);clear BK492 HB HO502;have BK492:=n0_;have HB:=n1_;have HO507:=n2_;clear n0_ n1_ n2_;clear ho hb hg hat))
            repeat (go_quiet (first|((with_reducible refine gate_builtin (b:=.append) (xs:=#[.tmp 27,.tmp 29]) rfl ?_);at_builtin;refine Kd.R_append k39 (w0:=w) w.heap.size rfl (.tmp 27) (.tmp 29) 23 39 (.agg #[(.int .i64 0),(.int .i64 0),(.int .i64 0)]) 24 rfl Try.underlying23 info39 rfl (by decide) (by omega) u5 x5_1 (⟨a1_0,a1_1,a1_2⟩:S39) [.int .i64 a1_0,.int .i64 a1_1,.int .i64 a1_2] (fun k_=>k_ ≠ gb492) (fun _=>False) rfl rfl ?aP (fun _ hk=>hk.elim) ?aF ?aO ?aB ?aS ?aL ?_;(case aP=>exact k39_mkM _ _ _ (⟨a1_0,a1_1,a1_2⟩:S39));(case aB=>exact (by repeat (first|(with_reducible first|exact HB.out|apply below_alloc|apply pw_below_drewN|apply below_drew1|refine below_set ?_ GE492.out)|exact HB.out)));(case aF=>exact (fun k_ hk=>Kd.freshB (g:=gb492) (o:=.cells #[.int .i64 a1_0,.int .i64 a1_1,.int .i64 a1_2] 39 (0,0)) (by (with_reducible repeat (first|refine blk_drewN ?_ _|refine blk_drew ?_|refine blk_alloc ?_ _));exact BK492.out) k_ hk));(case aO=>exact (by (with_reducible repeat (first|apply Kd.R_alloc|apply Kd.R_drewN|apply Kd.R_drew));exact HO_5.out));(case aS=>exact (below_size (by repeat (first|(with_reducible first|exact HB.out|apply below_alloc|apply pw_below_drewN|apply below_drew1|refine below_set ?_ GE492.out)|exact HB.out))));(case aL=>have:=LMc12.out;omega);intro v501 w21 ho hb hg hat;rw [← Ny500.out] at ho;have n0_:=Aside0.mk (blk_grown (g:=gb492) (o:=.cells #[.int .i64 a1_0,.int .i64 a1_1,.int .i64 a1_2] 39 (0,0)) (by (with_reducible repeat (first|refine blk_drewN ?_ _|refine blk_drew ?_|refine blk_alloc ?_ _));exact BK492.out) hg (Kd.R_away HO_5.out (fun _ hk=>hk)));have n1_:=Aside0.mk (hb);have n2_:=Aside0.mk (ho);clear BK492 HB HO_5;have BK492:=n0_;have HB:=n1_;have HO502:=n2_;clear n0_ n1_ n2_;clear ho hb hg hat;have p503 : 0 ≤ (x7_1:Int):=of_decide_eq_true (by first|(with_reducible assumption)|assumption);have q503:x7_1 < (l0.length:Int):=of_decide_eq_true (by first|(with_reducible assumption)|assumption);obtain ⟨ad503,e503,hx503_0,hx503_1,hx503_2⟩:=at_T39 HR0.out x7_1 p503 q503;cases e503;replace hx503_0:=(HB.out.cell (World.block_lt_of_cell? w _ hx503_0)).trans hx503_0;replace hx503_1:=(HB.out.cell (World.block_lt_of_cell? w _ hx503_1)).trans hx503_1;replace hx503_2:=(HB.out.cell (World.block_lt_of_cell? w _ hx503_2)).trans hx503_2;replace p503:=eq_true p503;replace q503:=eq_true q503;have hcz22_0:w21.cell? ⟨gb492,0,none⟩=some (.int .i64 a1_0):=(blk_cell BK492.out 0).trans rfl;have hcz22_1:w21.cell? ⟨gb492,1,none⟩=some (.int .i64 a1_1):=(blk_cell BK492.out 1).trans rfl;have hcz22_2:w21.cell? ⟨gb492,2,none⟩=some (.int .i64 a1_2):=(blk_cell BK492.out 2).trans rfl;have hfz22_0:=blk_frozen BK492.out 0;have hfz22_1:=blk_frozen BK492.out 1;have hfz22_2:=blk_frozen BK492.out 2;have p504 : 0 ≤ (x7_1:Int):=of_decide_eq_true (by first|(with_reducible assumption)|assumption);have q504:x7_1 < (l0.length:Int):=of_decide_eq_true (by first|(with_reducible assumption)|assumption);obtain ⟨ad504,e504,hx504_0,hx504_1,hx504_2⟩:=at_T39 HR0.out x7_1 p504 q504;obtain rfl:ad503=ad504:=(by injection e504);replace hx504_0:=(HB.out.cell (World.block_lt_of_cell? w _ hx504_0)).trans hx504_0;replace hx504_1:=(HB.out.cell (World.block_lt_of_cell? w _ hx504_1)).trans hx504_1;replace hx504_2:=(HB.out.cell (World.block_lt_of_cell? w _ hx504_2)).trans hx504_2;replace p504:=eq_true p504;replace q504:=eq_true q504)|((with_reducible refine gate_builtin (b:=.append) (xs:=#[.tmp 39,.tmp 44]) rfl ?_);at_builtin;refine Kd.R_append k39 (w0:=w) w.heap.size rfl (.tmp 39) (.tmp 44) 23 39 (.agg #[(.int .i64 0),(.int .i64 0),(.int .i64 0)]) 24 rfl Try.underlying23 info39 rfl (by decide) (by omega) v501 y500 (⟨(rd_T39 l0 x7_1).f0,(rd_T39 l0 x7_1).f1,(rd_T39 l0 x7_1).f2⟩:S39) [.int .i64 ((rd_T39 l0 x7_1).f0),.int .i64 ((rd_T39 l0 x7_1).f1),.int .i64 ((rd_T39 l0 x7_1).f2)] (fun k_=>k_ ≠ gb492) (fun _=>False) rfl rfl ?aP (fun _ hk=>hk.elim) ?aF ?aO ?aB ?aS ?aL ?_;(case aP=>exact k39_mkM _ _ _ (⟨(rd_T39 l0 x7_1).f0,(rd_T39 l0 x7_1).f1,(rd_T39 l0 x7_1).f2⟩:S39));(case aB=>exact (by repeat (first|(with_reducible first|exact HB.out|apply below_alloc|apply pw_below_drewN|apply below_drew1|refine below_set ?_ GE492.out)|exact HB.out)));(case aF=>exact (fun k_ hk=>Kd.freshB (g:=gb492) (o:=.cells #[.int .i64 a1_0,.int .i64 a1_1,.int .i64 a1_2] 39 (0,0)) (by (with_reducible repeat (first|refine blk_drewN ?_ _|refine blk_drew ?_|refine blk_alloc ?_ _));exact BK492.out) k_ hk));(case aO=>exact (by (with_reducible repeat (first|apply Kd.R_alloc|apply Kd.R_drewN|apply Kd.R_drew));exact HO502.out));(case aS=>exact (below_size (by repeat (first|(with_reducible first|exact HB.out|apply below_alloc|apply pw_below_drewN|apply below_drew1|refine below_set ?_ GE492.out)|exact HB.out))));(case aL=>have:=LMc19.out;omega);intro v506 w23 ho hb hg hat;rw [← Ny505.out] at ho;have n0_:=Aside0.mk (blk_grown (g:=gb492) (o:=.cells #[.int .i64 a1_0,.int .i64 a1_1,.int .i64 a1_2] 39 (0,0)) (by (with_reducible repeat (first|refine blk_drewN ?_ _|refine blk_drew ?_|refine blk_alloc ?_ _));exact BK492.out) hg (Kd.R_away HO502.out (fun _ hk=>hk)));have n1_:=Aside0.mk (hb);have n2_:=Aside0.mk (ho);clear BK492 HB HO502;have BK492:=n0_;have HB:=n1_;have HO507:=n2_;clear n0_ n1_ n2_;clear ho hb hg hat));try go_wp2_with (first|((with_reducible refine gate_builtin (b:=.append) (xs:=#[.tmp 27,.tmp 29]) rfl ?_);at_builtin;refine Kd.R_append k39 (w0:=w) w.heap.size rfl (.tmp 27) (.tmp 29) 23 39 (.agg #[(.int .i64 0),(.int .i64 0),(.int .i64 0)]) 24 rfl Try.underlying23 info39 rfl (by decide) (by omega) u5 x5_1 (⟨a1_0,a1_1,a1_2⟩:S39) [.int .i64 a1_0,.int .i64 a1_1,.int .i64 a1_2] (fun k_=>k_ ≠ gb492) (fun _=>False) rfl rfl ?aP (fun _ hk=>hk.elim) ?aF ?aO ?aB ?aS ?aL ?_;(case aP=>exact k39_mkM _ _ _ (⟨a1_0,a1_1,a1_2⟩:S39));(case aB=>exact (by repeat (first|(with_reducible first|exact HB.out|apply below_alloc|apply pw_below_drewN|apply below_drew1|refine below_set ?_ GE492.out)|exact HB.out)));(case aF=>exact (fun k_ hk=>Kd.freshB (g:=gb492) (o:=.cells #[.int .i64 a1_0,.int .i64 a1_1,.int .i64 a1_2] 39 (0,0)) (by (with_reducible repeat (first|refine blk_drewN ?_ _|refine blk_drew ?_|refine blk_alloc ?_ _));exact BK492.out) k_ hk));(case aO=>exact (by (with_reducible repeat (first|apply Kd.R_alloc|apply Kd.R_drewN|apply Kd.R_drew));exact HO_5.out));(case aS=>exact (below_size (by repeat (first|(with_reducible first|exact HB.out|apply below_alloc|apply pw_below_drewN|apply below_drew1|refine below_set ?_ GE492.out)|exact HB.out))));(case aL=>have:=LMc12.out;omega);intro v501 w21 ho hb hg hat;rw [← Ny500.out] at ho;have n0_:=Aside0.mk (blk_grown (g:=gb492) (o:=.cells #[.int .i64 a1_0,.int .i64 a1_1,.int .i64 a1_2] 39 (0,0)) (by (with_reducible repeat (first|refine blk_drewN ?_ _|refine blk_drew ?_|refine blk_alloc ?_ _));exact BK492.out) hg (Kd.R_away HO_5.out (fun _ hk=>hk)));have n1_:=Aside0.mk (hb);have n2_:=Aside0.mk (ho);clear BK492 HB HO_5;have BK492:=n0_;have HB:=n1_;have HO502:=n2_;clear n0_ n1_ n2_;clear ho hb hg hat;have p503 : 0 ≤ (x7_1:Int):=of_decide_eq_true (by first|(with_reducible assumption)|assumption);have q503:x7_1 < (l0.length:Int):=of_decide_eq_true (by first|(with_reducible assumption)|assumption);obtain ⟨ad503,e503,hx503_0,hx503_1,hx503_2⟩:=at_T39 HR0.out x7_1 p503 q503;cases e503;replace hx503_0:=(HB.out.cell (World.block_lt_of_cell? w _ hx503_0)).trans hx503_0;replace hx503_1:=(HB.out.cell (World.block_lt_of_cell? w _ hx503_1)).trans hx503_1;replace hx503_2:=(HB.out.cell (World.block_lt_of_cell? w _ hx503_2)).trans hx503_2;replace p503:=eq_true p503;replace q503:=eq_true q503;have hcz22_0:w21.cell? ⟨gb492,0,none⟩=some (.int .i64 a1_0):=(blk_cell BK492.out 0).trans rfl;have hcz22_1:w21.cell? ⟨gb492,1,none⟩=some (.int .i64 a1_1):=(blk_cell BK492.out 1).trans rfl;have hcz22_2:w21.cell? ⟨gb492,2,none⟩=some (.int .i64 a1_2):=(blk_cell BK492.out 2).trans rfl;have hfz22_0:=blk_frozen BK492.out 0;have hfz22_1:=blk_frozen BK492.out 1;have hfz22_2:=blk_frozen BK492.out 2;have p504 : 0 ≤ (x7_1:Int):=of_decide_eq_true (by first|(with_reducible assumption)|assumption);have q504:x7_1 < (l0.length:Int):=of_decide_eq_true (by first|(with_reducible assumption)|assumption);obtain ⟨ad504,e504,hx504_0,hx504_1,hx504_2⟩:=at_T39 HR0.out x7_1 p504 q504;obtain rfl:ad503=ad504:=(by injection e504);replace hx504_0:=(HB.out.cell (World.block_lt_of_cell? w _ hx504_0)).trans hx504_0;replace hx504_1:=(HB.out.cell (World.block_lt_of_cell? w _ hx504_1)).trans hx504_1;replace hx504_2:=(HB.out.cell (World.block_lt_of_cell? w _ hx504_2)).trans hx504_2;replace p504:=eq_true p504;replace q504:=eq_true q504)|((with_reducible refine gate_builtin (b:=.append) (xs:=#[.tmp 39,.tmp 44]) rfl ?_);at_builtin;refine Kd.R_append k39 (w0:=w) w.heap.size rfl (.tmp 39) (.tmp 44) 23 39 (.agg #[(.int .i64 0),(.int .i64 0),(.int .i64 0)]) 24 rfl Try.underlying23 info39 rfl (by decide) (by omega) v501 y500 (⟨(rd_T39 l0 x7_1).f0,(rd_T39 l0 x7_1).f1,(rd_T39 l0 x7_1).f2⟩:S39) [.int .i64 ((rd_T39 l0 x7_1).f0),.int .i64 ((rd_T39 l0 x7_1).f1),.int .i64 ((rd_T39 l0 x7_1).f2)] (fun k_=>k_ ≠ gb492) (fun _=>False) rfl rfl ?aP (fun _ hk=>hk.elim) ?aF ?aO ?aB ?aS ?aL ?_;(case aP=>exact k39_mkM _ _ _ (⟨(rd_T39 l0 x7_1).f0,(rd_T39 l0 x7_1).f1,(rd_T39 l0 x7_1).f2⟩:S39));(case aB=>exact (by repeat (first|(with_reducible first|exact HB.out|apply below_alloc|apply pw_below_drewN|apply below_drew1|refine below_set ?_ GE492.out)|exact HB.out)));(case aF=>exact (fun k_ hk=>Kd.freshB (g:=gb492) (o:=.cells #[.int .i64 a1_0,.int .i64 a1_1,.int .i64 a1_2] 39 (0,0)) (by (with_reducible repeat (first|refine blk_drewN ?_ _|refine blk_drew ?_|refine blk_alloc ?_ _));exact BK492.out) k_ hk));(case aO=>exact (by (with_reducible repeat (first|apply Kd.R_alloc|apply Kd.R_drewN|apply Kd.R_drew));exact HO502.out));(case aS=>exact (below_size (by repeat (first|(with_reducible first|exact HB.out|apply below_alloc|apply pw_below_drewN|apply below_drew1|refine below_set ?_ GE492.out)|exact HB.out))));(case aL=>have:=LMc19.out;omega);intro v506 w23 ho hb hg hat;rw [← Ny505.out] at ho;have n0_:=Aside0.mk (blk_grown (g:=gb492) (o:=.cells #[.int .i64 a1_0,.int .i64 a1_1,.int .i64 a1_2] 39 (0,0)) (by (with_reducible repeat (first|refine blk_drewN ?_ _|refine blk_drew ?_|refine blk_alloc ?_ _));exact BK492.out) hg (Kd.R_away HO502.out (fun _ hk=>hk)));have n1_:=Aside0.mk (hb);have n2_:=Aside0.mk (ho);clear BK492 HB HO502;have BK492:=n0_;have HB:=n1_;have HO507:=n2_;clear n0_ n1_ n2_;clear ho hb hg hat)))
            go_roundg kj6
            case measure=>have:=HK1.out;have:=HJ6.out;omega
            case rel=>exact ⟨(y505),(true),(wrap64 (x7_1+1)),(by first|rfl|(simp;done)|(simp [*];done)),(by first|rfl|(simp;done)|(simp [*];done)),H',⟨by have:=HK1.out;have:=HJ6.out;omega⟩,⟨by (with_reducible repeat (first|apply Kd.R_alloc|apply Kd.R_drewN|apply Kd.R_drew));exact HO507.out⟩,⟨by (with_reducible repeat (first|refine blk_drewN ?_ _|refine blk_drew ?_|refine blk_alloc ?_ _));exact BK492.out⟩,⟨by repeat (first|(with_reducible first|exact HB.out|apply below_alloc|apply pw_below_drewN|apply below_drew1|refine below_set ?_ GE492.out)|exact HB.out)⟩⟩
           ·rw [if_neg c19] at H
            exact absurd H (by simp)
         ·rw [if_neg c14] at H
          exact absurd H (by simp)
        ·rw [if_neg c13] at H
         exact absurd H (by simp)
       ·rw [if_neg c12] at H
        exact absurd H (by simp)
      ·replace c11:=Bool.eq_false_iff.mpr c11
       subst c11
       have H1:(if 0 ≤ x7_1 then (if x7_1 < (l0.length:Int) then (if ((rd_T39 l0 x7_1).f0)=a1_0 then (spec_l21Put.l0 kj6 l0 x5_1 x6_1 (wrap64 (x7_1+1)) a1_0 a1_1 a1_2) else (if x5_1.length < 5864062014805 then (spec_l21Put.l0 kj6 l0 (x5_1 ++ [(⟨(rd_T39 l0 x7_1).f0,(rd_T39 l0 x7_1).f1,(rd_T39 l0 x7_1).f2⟩:S39)]) x6_1 (wrap64 (x7_1+1)) a1_0 a1_1 a1_2) else (none))) else (none)) else (none))=some r:=by rw [if_neg (show ¬ (false=true) by decide)] at H;exact H
       clear H
       have H:=H1
       clear H1
       by_cases c24 : 0 ≤ x7_1
       ·rw [if_pos c24] at H
        have c24b0:decide (0 ≤ x7_1)=true:=decide_eq_true c24
        clear c24
        by_cases c25:x7_1 < (l0.length:Int)
        ·rw [if_pos c25] at H
         have c25b0:decide (x7_1 < (l0.length:Int))=true:=decide_eq_true c25
         clear c25
         by_cases c26:((rd_T39 l0 x7_1).f0)=a1_0
         ·rw [if_pos c26] at H
          have c26b0:(((rd_T39 l0 x7_1).f0) == a1_0)=true:=beq_iff_eq.mpr c26
          have c26b1:(((rd_T39 l0 x7_1).f0) != a1_0)=false:=bne_eq_false_iff_eq.mpr c26
          clear c26
          have H':=Aside0.mk H
          clear H
          have p508 : 0 ≤ (x7_1:Int):=of_decide_eq_true (by first|(with_reducible assumption)|assumption)
          have q508:x7_1 < (l0.length:Int):=of_decide_eq_true (by first|(with_reducible assumption)|assumption)
          obtain ⟨ad508,e508,hx508_0,hx508_1,hx508_2⟩:=at_T39 HR0.out x7_1 p508 q508
          cases e508
          replace hx508_0:=(HB.out.cell (World.block_lt_of_cell? w _ hx508_0)).trans hx508_0
          replace hx508_1:=(HB.out.cell (World.block_lt_of_cell? w _ hx508_1)).trans hx508_1
          replace hx508_2:=(HB.out.cell (World.block_lt_of_cell? w _ hx508_2)).trans hx508_2
          replace p508:=eq_true p508
          replace q508:=eq_true q508
          have hcz27_0:wc.cell? ⟨gb492,0,none⟩=some (.int .i64 a1_0):=(blk_cell BK492.out 0).trans rfl
          have hcz27_1:wc.cell? ⟨gb492,1,none⟩=some (.int .i64 a1_1):=(blk_cell BK492.out 1).trans rfl
          have hcz27_2:wc.cell? ⟨gb492,2,none⟩=some (.int .i64 a1_2):=(blk_cell BK492.out 2).trans rfl
          have hfz27_0:=blk_frozen BK492.out 0
          have hfz27_1:=blk_frozen BK492.out 1
          have hfz27_2:=blk_frozen BK492.out 2
          go_wp2
          repeat (go_quiet (fail);try go_wp2)
          go_roundg kj6
          case measure=>have:=HK1.out;have:=HJ6.out;omega
          case rel=>exact ⟨(x5_1),(x6_1),(wrap64 (x7_1+1)),(by first|rfl|(simp;done)|(simp [*];done)),(by first|rfl|(simp;done)|(simp [*];done)),H',⟨by have:=HK1.out;have:=HJ6.out;omega⟩,⟨by (with_reducible repeat (first|apply Kd.R_alloc|apply Kd.R_drewN|apply Kd.R_drew));exact HO_5.out⟩,⟨by (with_reducible repeat (first|refine blk_drewN ?_ _|refine blk_drew ?_|refine blk_alloc ?_ _));exact BK492.out⟩,⟨by repeat (first|(with_reducible first|exact HB.out|apply below_alloc|apply pw_below_drewN|apply below_drew1|refine below_set ?_ GE492.out)|exact HB.out)⟩⟩
         ·rw [if_neg c26] at H
          have c26b0:(((rd_T39 l0 x7_1).f0) == a1_0)=false:=beq_eq_false_iff_ne.mpr c26
          have c26b1:(((rd_T39 l0 x7_1).f0) != a1_0)=true:=bne_iff_ne.mpr c26
          by_cases c28:x5_1.length < 5864062014805
          ·rw [if_pos c28] at H
           have LMc28:=Aside0.mk c28
           clear c28
           obtain ⟨y510,hy510⟩:∃ y_:List (S39),y_=(x5_1 ++ [(⟨(rd_T39 l0 x7_1).f0,(rd_T39 l0 x7_1).f1,(rd_T39 l0 x7_1).f2⟩:S39)]):=⟨_,rfl⟩
           replace H:(spec_l21Put.l0 kj6 l0 y510 x6_1 (wrap64 (x7_1+1)) a1_0 a1_1 a1_2)=some r:=by first|(rw [hy510];with_reducible exact H)|(have H2_:=(Option.bind_some _ _).symm.trans H;rw [hy510];with_reducible exact H2_)|(have H2_:=(Option.bind_some _ _).symm.trans H;with_reducible exact H2_)|with_reducible exact H|(rw [hy510];exact H)|exact H
           have Ny510:=Aside0.mk hy510
           clear hy510
           have H':=Aside0.mk H
           clear H
           have p508 : 0 ≤ (x7_1:Int):=of_decide_eq_true (by first|(with_reducible assumption)|assumption)
           have q508:x7_1 < (l0.length:Int):=of_decide_eq_true (by first|(with_reducible assumption)|assumption)
           obtain ⟨ad508,e508,hx508_0,hx508_1,hx508_2⟩:=at_T39 HR0.out x7_1 p508 q508
           cases e508
           replace hx508_0:=(HB.out.cell (World.block_lt_of_cell? w _ hx508_0)).trans hx508_0
           replace hx508_1:=(HB.out.cell (World.block_lt_of_cell? w _ hx508_1)).trans hx508_1
           replace hx508_2:=(HB.out.cell (World.block_lt_of_cell? w _ hx508_2)).trans hx508_2
           replace p508:=eq_true p508
           replace q508:=eq_true q508
           have hcz29_0:wc.cell? ⟨gb492,0,none⟩=some (.int .i64 a1_0):=(blk_cell BK492.out 0).trans rfl
           have hcz29_1:wc.cell? ⟨gb492,1,none⟩=some (.int .i64 a1_1):=(blk_cell BK492.out 1).trans rfl
           have hcz29_2:wc.cell? ⟨gb492,2,none⟩=some (.int .i64 a1_2):=(blk_cell BK492.out 2).trans rfl
           have hfz29_0:=blk_frozen BK492.out 0
           have hfz29_1:=blk_frozen BK492.out 1
           have hfz29_2:=blk_frozen BK492.out 2
           have p509 : 0 ≤ (x7_1:Int):=of_decide_eq_true (by first|(with_reducible assumption)|assumption)
           have q509:x7_1 < (l0.length:Int):=of_decide_eq_true (by first|(with_reducible assumption)|assumption)
           obtain ⟨ad509,e509,hx509_0,hx509_1,hx509_2⟩:=at_T39 HR0.out x7_1 p509 q509
           obtain rfl:ad508=ad509:=(by injection e509)
           replace hx509_0:=(HB.out.cell (World.block_lt_of_cell? w _ hx509_0)).trans hx509_0
           replace hx509_1:=(HB.out.cell (World.block_lt_of_cell? w _ hx509_1)).trans hx509_1
           replace hx509_2:=(HB.out.cell (World.block_lt_of_cell? w _ hx509_2)).trans hx509_2
           replace p509:=eq_true p509
           replace q509:=eq_true q509
           go_wp2_with (first|((with_reducible refine gate_builtin (b:=.append) (xs:=#[.tmp 39,.tmp 44]) rfl ?_);at_builtin;refine Kd.R_append k39 (w0:=w) w.heap.size rfl (.tmp 39) (.tmp 44) 23 39 (.agg #[(.int .i64 0),(.int .i64 0),(.int .i64 0)]) 24 rfl Try.underlying23 info39 rfl (by decide) (by omega) u5 x5_1 (⟨(rd_T39 l0 x7_1).f0,(rd_T39 l0 x7_1).f1,(rd_T39 l0 x7_1).f2⟩:S39) [.int .i64 ((rd_T39 l0 x7_1).f0),.int .i64 ((rd_T39 l0 x7_1).f1),.int .i64 ((rd_T39 l0 x7_1).f2)] (fun k_=>k_ ≠ gb492) (fun _=>False) rfl rfl ?aP (fun _ hk=>hk.elim) ?aF ?aO ?aB ?aS ?aL ?_;(case aP=>exact k39_mkM _ _ _ (⟨(rd_T39 l0 x7_1).f0,(rd_T39 l0 x7_1).f1,(rd_T39 l0 x7_1).f2⟩:S39));(case aB=>exact (by repeat (first|(with_reducible first|exact HB.out|apply below_alloc|apply pw_below_drewN|apply below_drew1|refine below_set ?_ GE492.out)|exact HB.out)));(case aF=>exact (fun k_ hk=>Kd.freshB (g:=gb492) (o:=.cells #[.int .i64 a1_0,.int .i64 a1_1,.int .i64 a1_2] 39 (0,0)) (by (with_reducible repeat (first|refine blk_drewN ?_ _|refine blk_drew ?_|refine blk_alloc ?_ _));exact BK492.out) k_ hk));(case aO=>exact (by (with_reducible repeat (first|apply Kd.R_alloc|apply Kd.R_drewN|apply Kd.R_drew));exact HO_5.out));(case aS=>exact (below_size (by repeat (first|(with_reducible first|exact HB.out|apply below_alloc|apply pw_below_drewN|apply below_drew1|refine below_set ?_ GE492.out)|exact HB.out))));(case aL=>have:=LMc28.out;omega);intro v511 w30 ho hb hg hat;rw [← Ny510.out] at ho;have n0_:=Aside0.mk (blk_grown (g:=gb492) (o:=.cells #[.int .i64 a1_0,.int .i64 a1_1,.int .i64 a1_2] 39 (0,0)) (by (with_reducible repeat (first|refine blk_drewN ?_ _|refine blk_drew ?_|refine blk_alloc ?_ _));exact BK492.out) hg (Kd.R_away HO_5.out (fun _ hk=>hk)));have n1_:=Aside0.mk (hb);have n2_:=Aside0.mk (ho);clear BK492 HB HO_5;have BK492:=n0_;have HB:=n1_;have HO512:=n2_;clear n0_ n1_ n2_;clear ho hb hg hat))
           repeat (go_quiet (first|((with_reducible refine gate_builtin (b:=.append) (xs:=#[.tmp 39,.tmp 44]) rfl ?_);at_builtin;refine Kd.R_append k39 (w0:=w) w.heap.size rfl (.tmp 39) (.tmp 44) 23 39 (.agg #[(.int .i64 0),(.int .i64 0),(.int .i64 0)]) 24 rfl Try.underlying23 info39 rfl (by decide) (by omega) u5 x5_1 (⟨(rd_T39 l0 x7_1).f0,(rd_T39 l0 x7_1).f1,(rd_T39 l0 x7_1).f2⟩:S39) [.int .i64 ((rd_T39 l0 x7_1).f0),.int .i64 ((rd_T39 l0 x7_1).f1),.int .i64 ((rd_T39 l0 x7_1).f2)] (fun k_=>k_ ≠ gb492) (fun _=>False) rfl rfl ?aP (fun _ hk=>hk.elim) ?aF ?aO ?aB ?aS ?aL ?_;(case aP=>exact k39_mkM _ _ _ (⟨(rd_T39 l0 x7_1).f0,(rd_T39 l0 x7_1).f1,(rd_T39 l0 x7_1).f2⟩:S39));(case aB=>exact (by repeat (first|(with_reducible first|exact HB.out|apply below_alloc|apply pw_below_drewN|apply below_drew1|refine below_set ?_ GE492.out)|exact HB.out)));(case aF=>exact (fun k_ hk=>Kd.freshB (g:=gb492) (o:=.cells #[.int .i64 a1_0,.int .i64 a1_1,.int .i64 a1_2] 39 (0,0)) (by (with_reducible repeat (first|refine blk_drewN ?_ _|refine blk_drew ?_|refine blk_alloc ?_ _));exact BK492.out) k_ hk));(case aO=>exact (by (with_reducible repeat (first|apply Kd.R_alloc|apply Kd.R_drewN|apply Kd.R_drew));exact HO_5.out));(case aS=>exact (below_size (by repeat (first|(with_reducible first|exact HB.out|apply below_alloc|apply pw_below_drewN|apply below_drew1|refine below_set ?_ GE492.out)|exact HB.out))));(case aL=>have:=LMc28.out;omega);intro v511 w30 ho hb hg hat;rw [← Ny510.out] at ho;have n0_:=Aside0.mk (blk_grown (g:=gb492) (o:=.cells #[.int .i64 a1_0,.int .i64 a1_1,.int .i64 a1_2] 39 (0,0)) (by (with_reducible repeat (first|refine blk_drewN ?_ _|refine blk_drew ?_|refine blk_alloc ?_ _));exact BK492.out) hg (Kd.R_away HO_5.out (fun _ hk=>hk)));have n1_:=Aside0.mk (hb);have n2_:=Aside0.mk (ho);clear BK492 HB HO_5;have BK492:=n0_;have HB:=n1_;have HO512:=n2_;clear n0_ n1_ n2_;clear ho hb hg hat));try go_wp2_with (first|((with_reducible refine gate_builtin (b:=.append) (xs:=#[.tmp 39,.tmp 44]) rfl ?_);at_builtin;refine Kd.R_append k39 (w0:=w) w.heap.size rfl (.tmp 39) (.tmp 44) 23 39 (.agg #[(.int .i64 0),(.int .i64 0),(.int .i64 0)]) 24 rfl Try.underlying23 info39 rfl (by decide) (by omega) u5 x5_1 (⟨(rd_T39 l0 x7_1).f0,(rd_T39 l0 x7_1).f1,(rd_T39 l0 x7_1).f2⟩:S39) [.int .i64 ((rd_T39 l0 x7_1).f0),.int .i64 ((rd_T39 l0 x7_1).f1),.int .i64 ((rd_T39 l0 x7_1).f2)] (fun k_=>k_ ≠ gb492) (fun _=>False) rfl rfl ?aP (fun _ hk=>hk.elim) ?aF ?aO ?aB ?aS ?aL ?_;(case aP=>exact k39_mkM _ _ _ (⟨(rd_T39 l0 x7_1).f0,(rd_T39 l0 x7_1).f1,(rd_T39 l0 x7_1).f2⟩:S39));(case aB=>exact (by repeat (first|(with_reducible first|exact HB.out|apply below_alloc|apply pw_below_drewN|apply below_drew1|refine below_set ?_ GE492.out)|exact HB.out)));(case aF=>exact (fun k_ hk=>Kd.freshB (g:=gb492) (o:=.cells #[.int .i64 a1_0,.int .i64 a1_1,.int .i64 a1_2] 39 (0,0)) (by (with_reducible repeat (first|refine blk_drewN ?_ _|refine blk_drew ?_|refine blk_alloc ?_ _));exact BK492.out) k_ hk));(case aO=>exact (by (with_reducible repeat (first|apply Kd.R_alloc|apply Kd.R_drewN|apply Kd.R_drew));exact HO_5.out));(case aS=>exact (below_size (by repeat (first|(with_reducible first|exact HB.out|apply below_alloc|apply pw_below_drewN|apply below_drew1|refine below_set ?_ GE492.out)|exact HB.out))));(case aL=>have:=LMc28.out;omega);intro v511 w30 ho hb hg hat;rw [← Ny510.out] at ho;have n0_:=Aside0.mk (blk_grown (g:=gb492) (o:=.cells #[.int .i64 a1_0,.int .i64 a1_1,.int .i64 a1_2] 39 (0,0)) (by (with_reducible repeat (first|refine blk_drewN ?_ _|refine blk_drew ?_|refine blk_alloc ?_ _));exact BK492.out) hg (Kd.R_away HO_5.out (fun _ hk=>hk)));have n1_:=Aside0.mk (hb);have n2_:=Aside0.mk (ho);clear BK492 HB HO_5;have BK492:=n0_;have HB:=n1_;have HO512:=n2_;clear n0_ n1_ n2_;clear ho hb hg hat)))
           go_roundg kj6
           case measure=>have:=HK1.out;have:=HJ6.out;omega
           case rel=>exact ⟨(y510),(x6_1),(wrap64 (x7_1+1)),(by first|rfl|(simp;done)|(simp [*];done)),(by first|rfl|(simp;done)|(simp [*];done)),H',⟨by have:=HK1.out;have:=HJ6.out;omega⟩,⟨by (with_reducible repeat (first|apply Kd.R_alloc|apply Kd.R_drewN|apply Kd.R_drew));exact HO512.out⟩,⟨by (with_reducible repeat (first|refine blk_drewN ?_ _|refine blk_drew ?_|refine blk_alloc ?_ _));exact BK492.out⟩,⟨by repeat (first|(with_reducible first|exact HB.out|apply below_alloc|apply pw_below_drewN|apply below_drew1|refine below_set ?_ GE492.out)|exact HB.out)⟩⟩
          ·rw [if_neg c28] at H
           exact absurd H (by simp)
        ·rw [if_neg c25] at H
         exact absurd H (by simp)
       ·rw [if_neg c24] at H
        exact absurd H (by simp)
   ·rw [if_neg c6] at H
    have c6b0:decide (x7_1 < (l0.length:Int))=false:=decide_eq_false c6
    clear c6
    by_cases c31:x6_1=true
    ·subst c31
     have H1:(some x5_1)=some r:=by rw [if_pos rfl] at H;exact H
     clear H
     have H:=H1
     clear H1
     obtain rfl:=Option.some.inj H
     go_wp2
     repeat (go_quiet (fail);try go_wp2)
     go_ret
     exact ⟨_,by first|rfl|(simp [errW_none,errW_some] <;> rfl)|(simp [*,errW_none,errW_some] <;> rfl),by (with_reducible repeat (first|apply Kd.R_alloc|apply Kd.R_drewN|apply Kd.R_drew));exact Kd.R_mono HO_5.out (fun _ hk=>trivial),by repeat (first|(with_reducible first|exact HB.out|apply below_alloc|apply pw_below_drewN|apply below_drew1|refine below_set ?_ GE492.out)|exact HB.out)⟩
    ·replace c31:=Bool.eq_false_iff.mpr c31
     subst c31
     have H1:(if x5_1.length < 5864062014805 then (some (x5_1 ++ [(⟨a1_0,a1_1,a1_2⟩:S39)])) else (none))=some r:=by rw [if_neg (show ¬ (false=true) by decide)] at H;exact H
     clear H
     have H:=H1
     clear H1
     by_cases c32:x5_1.length < 5864062014805
     ·rw [if_pos c32] at H
      have LMc32:=Aside0.mk c32
      clear c32
      obtain ⟨y496,hy496⟩:∃ y_:List (S39),y_=(x5_1 ++ [(⟨a1_0,a1_1,a1_2⟩:S39)]):=⟨_,rfl⟩
      replace H:(some y496)=some r:=by first|(rw [hy496];with_reducible exact H)|(have H2_:=(Option.bind_some _ _).symm.trans H;rw [hy496];with_reducible exact H2_)|(have H2_:=(Option.bind_some _ _).symm.trans H;with_reducible exact H2_)|with_reducible exact H|(rw [hy496];exact H)|exact H
      have Ny496:=Aside0.mk hy496
      clear hy496
      obtain rfl:=Option.some.inj H
      have hcz33_0:wr.cell? ⟨gb492,0,none⟩=some (.int .i64 a1_0):=(blk_cell BK492.out 0).trans rfl
      have hcz33_1:wr.cell? ⟨gb492,1,none⟩=some (.int .i64 a1_1):=(blk_cell BK492.out 1).trans rfl
      have hcz33_2:wr.cell? ⟨gb492,2,none⟩=some (.int .i64 a1_2):=(blk_cell BK492.out 2).trans rfl
      have hfz33_0:=blk_frozen BK492.out 0
      have hfz33_1:=blk_frozen BK492.out 1
      have hfz33_2:=blk_frozen BK492.out 2
      go_wp2_with (first|((with_reducible refine gate_builtin (b:=.append) (xs:=#[.tmp 48,.tmp 50]) rfl ?_);at_builtin;refine Kd.R_append k39 (w0:=w) w.heap.size rfl (.tmp 48) (.tmp 50) 23 39 (.agg #[(.int .i64 0),(.int .i64 0),(.int .i64 0)]) 24 rfl Try.underlying23 info39 rfl (by decide) (by omega) u5 x5_1 (⟨a1_0,a1_1,a1_2⟩:S39) [.int .i64 a1_0,.int .i64 a1_1,.int .i64 a1_2] (fun k_=>k_ ≠ gb492) (fun _=>False) rfl rfl ?aP (fun _ hk=>hk.elim) ?aF ?aO ?aB ?aS ?aL ?_;(case aP=>exact k39_mkM _ _ _ (⟨a1_0,a1_1,a1_2⟩:S39));(case aB=>exact (by repeat (first|(with_reducible first|exact HB.out|apply below_alloc|apply pw_below_drewN|apply below_drew1|refine below_set ?_ GE492.out)|exact HB.out)));(case aF=>exact (fun k_ hk=>Kd.freshB (g:=gb492) (o:=.cells #[.int .i64 a1_0,.int .i64 a1_1,.int .i64 a1_2] 39 (0,0)) (by (with_reducible repeat (first|refine blk_drewN ?_ _|refine blk_drew ?_|refine blk_alloc ?_ _));exact BK492.out) k_ hk));(case aO=>exact (by (with_reducible repeat (first|apply Kd.R_alloc|apply Kd.R_drewN|apply Kd.R_drew));exact HO_5.out));(case aS=>exact (below_size (by repeat (first|(with_reducible first|exact HB.out|apply below_alloc|apply pw_below_drewN|apply below_drew1|refine below_set ?_ GE492.out)|exact HB.out))));(case aL=>have:=LMc32.out;omega);intro v497 w34 ho hb hg hat;rw [← Ny496.out] at ho;have n0_:=Aside0.mk (blk_grown (g:=gb492) (o:=.cells #[.int .i64 a1_0,.int .i64 a1_1,.int .i64 a1_2] 39 (0,0)) (by (with_reducible repeat (first|refine blk_drewN ?_ _|refine blk_drew ?_|refine blk_alloc ?_ _));exact BK492.out) hg (Kd.R_away HO_5.out (fun _ hk=>hk)));have n1_:=Aside0.mk (hb);have n2_:=Aside0.mk (ho);clear BK492 HB HO_5;have BK492:=n0_;have HB:=n1_;have HO498:=n2_;clear n0_ n1_ n2_;clear ho hb hg hat))
      repeat (go_quiet (first|((with_reducible refine gate_builtin (b:=.append) (xs:=#[.tmp 48,.tmp 50]) rfl ?_);at_builtin;refine Kd.R_append k39 (w0:=w) w.heap.size rfl (.tmp 48) (.tmp 50) 23 39 (.agg #[(.int .i64 0),(.int .i64 0),(.int .i64 0)]) 24 rfl Try.underlying23 info39 rfl (by decide) (by omega) u5 x5_1 (⟨a1_0,a1_1,a1_2⟩:S39) [.int .i64 a1_0,.int .i64 a1_1,.int .i64 a1_2] (fun k_=>k_ ≠ gb492) (fun _=>False) rfl rfl ?aP (fun _ hk=>hk.elim) ?aF ?aO ?aB ?aS ?aL ?_;(case aP=>exact k39_mkM _ _ _ (⟨a1_0,a1_1,a1_2⟩:S39));(case aB=>exact (by repeat (first|(with_reducible first|exact HB.out|apply below_alloc|apply pw_below_drewN|apply below_drew1|refine below_set ?_ GE492.out)|exact HB.out)));(case aF=>exact (fun k_ hk=>Kd.freshB (g:=gb492) (o:=.cells #[.int .i64 a1_0,.int .i64 a1_1,.int .i64 a1_2] 39 (0,0)) (by (with_reducible repeat (first|refine blk_drewN ?_ _|refine blk_drew ?_|refine blk_alloc ?_ _));exact BK492.out) k_ hk));(case aO=>exact (by (with_reducible repeat (first|apply Kd.R_alloc|apply Kd.R_drewN|apply Kd.R_drew));exact HO_5.out));(case aS=>exact (below_size (by repeat (first|(with_reducible first|exact HB.out|apply below_alloc|apply pw_below_drewN|apply below_drew1|refine below_set ?_ GE492.out)|exact HB.out))));(case aL=>have:=LMc32.out;omega);intro v497 w34 ho hb hg hat;rw [← Ny496.out] at ho;have n0_:=Aside0.mk (blk_grown (g:=gb492) (o:=.cells #[.int .i64 a1_0,.int .i64 a1_1,.int .i64 a1_2] 39 (0,0)) (by (with_reducible repeat (first|refine blk_drewN ?_ _|refine blk_drew ?_|refine blk_alloc ?_ _));exact BK492.out) hg (Kd.R_away HO_5.out (fun _ hk=>hk)));have n1_:=Aside0.mk (hb);have n2_:=Aside0.mk (ho);clear BK492 HB HO_5;have BK492:=n0_;have HB:=n1_;have HO498:=n2_;clear n0_ n1_ n2_;clear ho hb hg hat));try go_wp2_with (first|((with_reducible refine gate_builtin (b:=.append) (xs:=#[.tmp 48,.tmp 50]) rfl ?_);at_builtin;refine Kd.R_append k39 (w0:=w) w.heap.size rfl (.tmp 48) (.tmp 50) 23 39 (.agg #[(.int .i64 0),(.int .i64 0),(.int .i64 0)]) 24 rfl Try.underlying23 info39 rfl (by decide) (by omega) u5 x5_1 (⟨a1_0,a1_1,a1_2⟩:S39) [.int .i64 a1_0,.int .i64 a1_1,.int .i64 a1_2] (fun k_=>k_ ≠ gb492) (fun _=>False) rfl rfl ?aP (fun _ hk=>hk.elim) ?aF ?aO ?aB ?aS ?aL ?_;(case aP=>exact k39_mkM _ _ _ (⟨a1_0,a1_1,a1_2⟩:S39));(case aB=>exact (by repeat (first|(with_reducible first|exact HB.out|apply below_alloc|apply pw_below_drewN|apply below_drew1|refine below_set ?_ GE492.out)|exact HB.out)));(case aF=>exact (fun k_ hk=>Kd.freshB (g:=gb492) (o:=.cells #[.int .i64 a1_0,.int .i64 a1_1,.int .i64 a1_2] 39 (0,0)) (by (with_reducible repeat (first|refine blk_drewN ?_ _|refine blk_drew ?_|refine blk_alloc ?_ _));exact BK492.out) k_ hk));(case aO=>exact (by (with_reducible repeat (first|apply Kd.R_alloc|apply Kd.R_drewN|apply Kd.R_drew));exact HO_5.out));(case aS=>exact (below_size (by repeat (first|(with_reducible first|exact HB.out|apply below_alloc|apply pw_below_drewN|apply below_drew1|refine below_set ?_ GE492.out)|exact HB.out))));(case aL=>have:=LMc32.out;omega);intro v497 w34 ho hb hg hat;rw [← Ny496.out] at ho;have n0_:=Aside0.mk (blk_grown (g:=gb492) (o:=.cells #[.int .i64 a1_0,.int .i64 a1_1,.int .i64 a1_2] 39 (0,0)) (by (with_reducible repeat (first|refine blk_drewN ?_ _|refine blk_drew ?_|refine blk_alloc ?_ _));exact BK492.out) hg (Kd.R_away HO_5.out (fun _ hk=>hk)));have n1_:=Aside0.mk (hb);have n2_:=Aside0.mk (ho);clear BK492 HB HO_5;have BK492:=n0_;have HB:=n1_;have HO498:=n2_;clear n0_ n1_ n2_;clear ho hb hg hat)))
      go_ret
      exact ⟨_,by first|rfl|(simp [errW_none,errW_some] <;> rfl)|(simp [*,errW_none,errW_some] <;> rfl),by (with_reducible repeat (first|apply Kd.R_alloc|apply Kd.R_drewN|apply Kd.R_drew));exact Kd.R_mono HO498.out (fun _ hk=>trivial),by repeat (first|(with_reducible first|exact HB.out|apply below_alloc|apply pw_below_drewN|apply below_drew1|refine below_set ?_ GE492.out)|exact HB.out)⟩
     ·rw [if_neg c32] at H
      exact absurd H (by simp)
end Go.Proofs.Ytkhmopmfbocokaa.T
