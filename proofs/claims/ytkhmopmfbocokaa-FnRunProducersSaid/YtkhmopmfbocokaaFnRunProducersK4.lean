/- FnRunProducers, part 5 of 7: merged by wip/tools/pack2.py out of the texts that the row reaches; the pure statement is the session's own. -/
import Derived.IntWalk
import Derived.Test.YtkhmopmfbocokaaFnRunProducersK3
open List (setIfInBounds_toArray set_cons_zero set_cons_succ map_toArray map_cons map_nil length_drop length_take)
namespace Go.Proofs.Ytkhmopmfbocokaa.T
open Go.RowKit Go.Proofs.YtkhmopmfbocokaaW.PrintWords Go.Proofs.YtkhmopmfbocokaaW.PrintLast Go.Proofs.YtkhmopmfbocokaaW.PrintMore
attribute [local go_sem] max2_int max_two
set_option linter.unusedVariables false
set_option linter.unusedSimpArgs false
def spec_DrawProducersRun.l0:Nat→List (S34)→Int→List Int→Int→List Int→Int→Option ((List (S34)))
 | 0,_,_,_,_,_,_=>none
 | k+1,x4,x5,x6,x7,x746000,x746001=>if x7 < x5 then ((spec_l91Batch.f k x746000 x746001 (wrap64 (2 * x7))).bind fun bt754=>(if bt754.2.2.1 < 3 then ((spec_l6Rd_pick.f k x746000 bt754.2.2.2.2.2.2 12).bind fun bt764=>(if 0 ≤ bt754.2.2.1 then (if bt754.2.2.1 < (x6.length:Int) then ((spec_l6Rd_pick.f k x746000 bt764.2 5).bind fun bt767=>(if bt767.1 > 0 then (if x4.length < 2513169434916 then (spec_DrawProducersRun.l0 k (x4 ++ [(⟨bt754.1,bt754.2.1,bt754.2.2.1,wrap64 (Int.tdiv bt764.1 11),rd x6 bt754.2.2.1,bt754.2.2.2.2.2.1⟩:S34)]) x5 (x6.set (bt754.2.2.1:Int).toNat (wrap64 ((rd x6 bt754.2.2.1)+(bt754.2.2.2.2.2.1.length:Int)))) (wrap64 (x7+1)) x746000 bt767.2) else (none)) else (if x4.length < 2513169434916 then (spec_DrawProducersRun.l0 k (x4 ++ [(⟨bt754.1,bt754.2.1,bt754.2.2.1,wrap64 (Int.tdiv bt764.1 11),rd x6 bt754.2.2.1,bt754.2.2.2.2.2.1⟩:S34)]) x5 x6 (wrap64 (x7+1)) x746000 bt767.2) else (none)))) else (none)) else (none))) else (if x4.length < 2513169434916 then (spec_DrawProducersRun.l0 k (x4 ++ [(⟨bt754.1,bt754.2.1,bt754.2.2.1,bt754.2.2.2.1,bt754.2.2.2.2.1,bt754.2.2.2.2.2.1⟩:S34)]) x5 x6 (wrap64 (x7+1)) x746000 bt754.2.2.2.2.2.2) else (none)))) else (some x4)
def spec_DrawProducersRun.f (k:Nat) (l0:List Int):Option ((List (S34))):=(spec_l6Open.f l0).bind fun bt743=>((spec_l6Rd_pick.f k bt743.1 bt743.2 7).bind fun bt749=>(spec_DrawProducersRun.l0 k (([]:List (S34))) bt749.1 (([0,0,0]:List Int)) 0 bt743.1 bt749.2))
set_option maxHeartbeats 8000000 in
set_option maxRecDepth 100000 in
theorem spec_DrawProducersRun.calls (k:Nat) (A0:Option Addr) (c0:Nat) (l0:List Int) (r:List (S34)) (w:World) (hr0:Kd.C (Kd.int .u8) w A0 l0.length l0) (hc0:l0.length ≤ c0) (h:spec_DrawProducersRun.f k l0=some r) :
  Calls Try.prog 35 #[.slice A0 l0.length c0] w fun e w'=>∃ v0_:Value,e = .returned (v0_)∧Kd.N k34 34 w' w.heap.size (fun k_=>(w.heap.size ≤ k_)) v0_ r∧Below w.heap.size w w':=by
 have hu34:=Try.underlying34
 have HR0:=Aside0.mk hr0
 have HC0:=Aside0.mk hc0
 clear hr0 hc0
 have HB:=Aside0.mk (Below.refl w.heap.size w)
 have H:((spec_l6Open.f l0).bind fun bt743=>((spec_l6Rd_pick.f k bt743.1 bt743.2 7).bind fun bt749=>(spec_DrawProducersRun.l0 k (([]:List (S34))) bt749.1 (([0,0,0]:List Int)) 0 bt743.1 bt749.2)))=some r:=h
 clear h
 replace H:=Option.bind_eq_some_iff.mp H
 obtain ⟨⟨t743,t744⟩,A20,H⟩:=H
 replace H:((spec_l6Rd_pick.f k t743 t744 7).bind fun bt749=>(spec_DrawProducersRun.l0 k (([]:List (S34))) bt749.1 (([0,0,0]:List Int)) 0 t743 bt749.2))=some r:=H
 have A2:=Aside0.mk A20
 clear A20
 obtain ⟨y746,hy746⟩:∃ y_:List (S34),y_=(([]:List (S34))):=⟨_,rfl⟩
 replace H:((spec_l6Rd_pick.f k t743 t744 7).bind fun bt749=>(spec_DrawProducersRun.l0 k y746 bt749.1 (([0,0,0]:List Int)) 0 t743 bt749.2))=some r:=by first|(rw [hy746];with_reducible exact H)|(have H2_:=(Option.bind_some _ _).symm.trans H;rw [hy746];with_reducible exact H2_)|(have H2_:=(Option.bind_some _ _).symm.trans H;with_reducible exact H2_)|with_reducible exact H|(rw [hy746];exact H)|exact H
 have Ny746:=Aside0.mk hy746
 clear hy746
 replace H:=Option.bind_eq_some_iff.mp H
 obtain ⟨⟨t749,t750⟩,A30,H⟩:=H
 replace H:(spec_DrawProducersRun.l0 k y746 t749 (([0,0,0]:List Int)) 0 t743 t750)=some r:=H
 have A3:=Aside0.mk A30
 clear A30
 obtain ⟨y751,hy751⟩:∃ y_:List Int,y_=(([0,0,0]:List Int)):=⟨_,rfl⟩
 replace H:(spec_DrawProducersRun.l0 k y746 t749 y751 0 t743 t750)=some r:=by first|(rw [hy751];with_reducible exact H)|(have H2_:=(Option.bind_some _ _).symm.trans H;rw [hy751];with_reducible exact H2_)|(have H2_:=(Option.bind_some _ _).symm.trans H;with_reducible exact H2_)|with_reducible exact H|(rw [hy751];exact H)|exact H
 have Ny751:=Aside0.mk hy751
 clear hy751
 have H':=Aside0.mk H
 clear H
 go_enter Try.func35,Try.ntmps35
 go_wp2_with (first|((with_reducible refine gate_callee (f:=50) rfl ?_);refine goesL_ (some 10) rfl rfl Try.func50 (by kernel_rfl) rfl #[.slice A0 l0.length c0] rfl (by (try simp only [map_toArray,map_cons,map_nil]);first|done|rfl|(simp only [length_drop,length_take];rfl)) ?_;(with_reducible refine (spec_l6Open.calls _ _ l0 t743 t744 w _ ?side1 ?side2 ?side3 A2.out).mono ?_);(case side1=>repeat (first|(with_reducible first|exact HB.out|apply below_alloc|apply pw_below_drewN|apply below_drew1)|exact HB.out));(case side2=>exact HR0.out);(case side3=>exact HC0.out);rintro e w4 ⟨g745,rfl,hi,hb,hb2⟩;refine ⟨_,rfl,?_⟩;have n0_:=Aside0.mk (hb);have n1_:=Aside0.mk (hi);clear HB;have HB:=n0_;have HI745:=n1_;clear n0_ n1_;(try clear hb);(try clear hb2);(try clear hk);(try clear hi))|((with_reducible refine gate_dst (N:=11) rfl ?_);refine Kd.N_lit k34 _ 34 ?hg (N':=11) ?hd (xs:=([]:List (S34))) (inner:=[]) (ok:=(fun k_=>(w.heap.size ≤ k_)∧k_ ≠ g745)) (okp:=(fun k_=>(w.heap.size ≤ k_)∧k_ ≠ g745)) ?hr ?hp (fun _ hk=>hk) ((show ∀ k_,w4.heap.size ≤ k_→(fun k_=>(w.heap.size ≤ k_)∧k_ ≠ g745) k_ from fun k_ hk=>⟨(Nat.le_trans (below_size (by repeat (first|(with_reducible first|exact HB.out|apply below_alloc|apply pw_below_drewN|apply below_drew1|refine below_set ?_ (IsS92.ge HI745.out))|exact HB.out))) hk),IsS92.fresh (by repeat (first|(with_reducible first|exact HI745.out|apply IsS92.alloc|apply IsS92.drewN|apply IsS92.drew|apply IsS92.set_1)|exact HI745.out)) k_ hk⟩) _ (Nat.le_refl _)) (Below.refl _ _) (Nat.le_refl _) (by simp) ?_;(case hd=>rfl);(case hg=>rfl);(case hr=>first|(go_simp;done)|(go_simp;rfl));(case hp=>exact (Reps.none _ _));intro v747 w5 ho6 hb hg_ hnew_;clear hg_ hnew_;(first|rw [← Ny746.out] at ho6|(simp only [Int.reduceToNat] at ho6;rw [← Ny746.out] at ho6));have n0_:=Aside0.mk (Kd.N_lower ho6 (below_size (by repeat (first|(with_reducible first|exact HB.out|apply below_alloc|apply pw_below_drewN|apply below_drew1|refine below_set ?_ (IsS92.ge HI745.out))|exact HB.out))));have n1_:=Aside0.mk (IsS92.below (by repeat (first|(with_reducible first|exact HI745.out|apply IsS92.alloc|apply IsS92.drewN|apply IsS92.drew|apply IsS92.set_1)|exact HI745.out)) hb);have n2_:=Aside0.mk (below_step (by repeat (first|(with_reducible first|exact HB.out|apply below_alloc|apply pw_below_drewN|apply below_drew1|refine below_set ?_ (IsS92.ge HI745.out))|exact HB.out)) hb);clear HI745 HB;have HO748:=n0_;have HI745:=n1_;have HB:=n2_;clear n0_ n1_ n2_;clear hb ho6)|((with_reducible refine gate_callee (f:=67) rfl ?_);refine goesL_ (some 13) rfl rfl Try.func67 (by kernel_rfl) rfl #[.pointer (some ⟨g745,0,none⟩),.int .i64 7] rfl (by (try simp only [map_toArray,map_cons,map_nil]);first|done|rfl|(simp only [length_drop,length_take];rfl)) ?_;(with_reducible refine (spec_l6Rd_pick.calls k g745 t743 t744 7 t749 t750 w _ ?side1 ?side2 A3.out).mono ?_);(case side1=>repeat (first|(with_reducible first|exact HI745.out|apply IsS92.alloc|apply IsS92.drewN|apply IsS92.drew|apply IsS92.set_1)|exact HI745.out));(case side2=>repeat (first|(with_reducible first|exact HB.out|apply below_alloc|apply pw_below_drewN|apply below_drew1|refine below_set ?_ (IsS92.ge HI745.out))|exact HB.out));rintro e w7 ⟨rfl,hi,hb,hk⟩;refine ⟨_,rfl,?_⟩;have n0_:=Aside0.mk (Kd.N_mono (Kd.N_keep (Kd.N_mono (ok:=fun k_=>(((w.heap.size ≤ k_))∧k_ ≠ g745)) (by (with_reducible repeat (first|apply Kd.N_alloc|apply Kd.N_drewN|apply Kd.N_drew));exact HO748.out) (fun k_ hk_=>(⟨hk_,hk_.2⟩:_∧k_ ≠ g745))) hk (fun _ h=>h.2)) (fun _ h=>h.1));have n1_:=Aside0.mk (hb);have n2_:=Aside0.mk (hi);clear HO748 HB HI745;have HO748:=n0_;have HB:=n1_;have HI745:=n2_;clear n0_ n1_ n2_;(try clear hb);(try clear hb2);(try clear hk);(try clear hi))|((with_reducible refine gate_dst (N:=14) rfl ?_);refine Kd.R_lit (Kd.int .i64) _ 3 ?hg (N:=14) ?hd (xs:=([0,0,0]:List Int)) (inner:=[.int .i64 0,.int .i64 0,.int .i64 0]) (ok:=fun _=>True) (okp:=fun _=>True) ?hr ?hp (fun _ hk=>hk) trivial (Below.refl _ _) (Nat.le_refl _) (by simp) ?_;(case hd=>rfl);(case hg=>rfl);(case hr=>first|(go_simp;done)|(go_simp;rfl));(case hp=>exact (Reps.one (show Kd.M (Kd.int .i64) _ _ _ 0 [.int .i64 0] from rfl) (Reps.one (show Kd.M (Kd.int .i64) _ _ _ 0 [.int .i64 0] from rfl) (Reps.one (show Kd.M (Kd.int .i64) _ _ _ 0 [.int .i64 0] from rfl) (Reps.none _ _)))));intro v752 w8 ho9 hb hg_ hnew_;clear hg_ hnew_;(first|rw [← Ny751.out] at ho9|(simp only [Int.reduceToNat] at ho9;rw [← Ny751.out] at ho9));have n0_:=Aside0.mk (Kd.N_elder' (by (with_reducible repeat (first|apply Kd.N_alloc|apply Kd.N_drewN|apply Kd.N_drew));exact HO748.out) (Kd.R_base ho9) hb);have n1_:=Aside0.mk (Kd.R_lower (Kd.R_newM (M:=fun k_=>(w.heap.size ≤ k_)) ho9 (below_size (by repeat (first|(with_reducible first|exact HB.out|apply below_alloc|apply pw_below_drewN|apply below_drew1|refine below_set ?_ (IsS92.ge HI745.out))|exact HB.out))) (fun k_ h_=>h_)) (below_size (by repeat (first|(with_reducible first|exact HB.out|apply below_alloc|apply pw_below_drewN|apply below_drew1|refine below_set ?_ (IsS92.ge HI745.out))|exact HB.out))));have n2_:=Aside0.mk (IsS92.below (by repeat (first|(with_reducible first|exact HI745.out|apply IsS92.alloc|apply IsS92.drewN|apply IsS92.drew|apply IsS92.set_1)|exact HI745.out)) hb);have n3_:=Aside0.mk (below_step (by repeat (first|(with_reducible first|exact HB.out|apply below_alloc|apply pw_below_drewN|apply below_drew1|refine below_set ?_ (IsS92.ge HI745.out))|exact HB.out)) hb);clear HO748 HI745 HB;have HO748:=n0_;have HO753:=n1_;have HI745:=n2_;have HB:=n3_;clear n0_ n1_ n2_ n3_;clear hb ho9))
 go_loopg [4,7] k (fun kq v4 v7 w'=>∃ (x4_1:List (S34)) (x6_1:List Int) (x7_1:Int) (x746001_1:Int),v7 = .int .i64 x7_1∧Aside0 (spec_DrawProducersRun.l0 kq x4_1 t749 x6_1 x7_1 t743 x746001_1=some r)∧Aside0 (kq ≤ k)∧Aside0 (Kd.N k34 34 w' w.heap.size (fun k_=>(w.heap.size ≤ k_)∧some k_ ≠ (v752:Value).ownBlock∧k_ ≠ g745) v4 x4_1)∧Aside0 (Kd.R (Kd.int .i64) 3 w' w.heap.size (fun k_=>(w.heap.size ≤ k_)) v752 x6_1)∧Aside0 (IsS92 w w' g745 t743 x746001_1)∧Aside0 (Below w.heap.size w w'))
 case atStart=>exact ⟨(y746),(y751),(0),(t750),(by first|rfl|(simp;done)|(simp [*];done)),H',⟨Nat.le_refl _⟩,⟨by (with_reducible repeat (first|apply Kd.N_alloc|apply Kd.N_drewN|apply Kd.N_drew));exact Kd.N_mono HO748.out (fun _ hk=>⟨hk.1.1,⟨hk.2,hk.1.2⟩⟩)⟩,⟨by (with_reducible repeat (first|apply Kd.R_alloc|apply Kd.R_drewN|apply Kd.R_drew));exact Kd.R_mono HO753.out (fun _ hk=>hk.1)⟩,⟨by repeat (first|(with_reducible first|exact HI745.out|apply IsS92.alloc|apply IsS92.drewN|apply IsS92.drew|apply IsS92.set_1)|exact HI745.out)⟩,⟨by repeat (first|(with_reducible first|exact HB.out|apply below_alloc|apply pw_below_drewN|apply below_drew1|refine below_set ?_ (IsS92.ge HI745.out))|exact HB.out)⟩⟩
 case round=>
  clear H'
  try clear p2
  try clear c3
  try clear c5
  try clear c6
  obtain ⟨x4_1,x6_1,x7_1,x746001_1,rfl,HA,HK1,HO_4,HO_6,HI745,HB⟩:=hrel
  cases gk with
  | zero=>exact absurd HA.out (by simp [spec_DrawProducersRun.l0])
  | succ k1=>
   have H:=HA.out
   clear HA
   simp only [spec_DrawProducersRun.l0] at H
   by_cases c10:x7_1 < t749
   ·rw [if_pos c10] at H
    have c10b0:decide (x7_1 < t749)=true:=decide_eq_true c10
    clear c10
    replace H:=Option.bind_eq_some_iff.mp H
    obtain ⟨⟨t754,t755,t756,t757,t758,t759,t762⟩,A110,H⟩:=H
    replace H:(if t756 < 3 then ((spec_l6Rd_pick.f k1 t743 t762 12).bind fun bt764=>(if 0 ≤ t756 then (if t756 < (x6_1.length:Int) then ((spec_l6Rd_pick.f k1 t743 bt764.2 5).bind fun bt767=>(if bt767.1 > 0 then (if x4_1.length < 2513169434916 then (spec_DrawProducersRun.l0 k1 (x4_1 ++ [(⟨t754,t755,t756,wrap64 (Int.tdiv bt764.1 11),rd x6_1 t756,t759⟩:S34)]) t749 (x6_1.set (t756:Int).toNat (wrap64 ((rd x6_1 t756)+(t759.length:Int)))) (wrap64 (x7_1+1)) t743 bt767.2) else (none)) else (if x4_1.length < 2513169434916 then (spec_DrawProducersRun.l0 k1 (x4_1 ++ [(⟨t754,t755,t756,wrap64 (Int.tdiv bt764.1 11),rd x6_1 t756,t759⟩:S34)]) t749 x6_1 (wrap64 (x7_1+1)) t743 bt767.2) else (none)))) else (none)) else (none))) else (if x4_1.length < 2513169434916 then (spec_DrawProducersRun.l0 k1 (x4_1 ++ [(⟨t754,t755,t756,t757,t758,t759⟩:S34)]) t749 x6_1 (wrap64 (x7_1+1)) t743 t762) else (none)))=some r:=H
    have A11:=Aside0.mk A110
    clear A110
    by_cases c12:t756 < 3
    ·rw [if_pos c12] at H
     have c12b0:decide (t756 < 3)=true:=decide_eq_true c12
     clear c12
     replace H:=Option.bind_eq_some_iff.mp H
     obtain ⟨⟨t764,t765⟩,A130,H⟩:=H
     replace H:(if 0 ≤ t756 then (if t756 < (x6_1.length:Int) then ((spec_l6Rd_pick.f k1 t743 t765 5).bind fun bt767=>(if bt767.1 > 0 then (if x4_1.length < 2513169434916 then (spec_DrawProducersRun.l0 k1 (x4_1 ++ [(⟨t754,t755,t756,wrap64 (Int.tdiv t764 11),rd x6_1 t756,t759⟩:S34)]) t749 (x6_1.set (t756:Int).toNat (wrap64 ((rd x6_1 t756)+(t759.length:Int)))) (wrap64 (x7_1+1)) t743 bt767.2) else (none)) else (if x4_1.length < 2513169434916 then (spec_DrawProducersRun.l0 k1 (x4_1 ++ [(⟨t754,t755,t756,wrap64 (Int.tdiv t764 11),rd x6_1 t756,t759⟩:S34)]) t749 x6_1 (wrap64 (x7_1+1)) t743 bt767.2) else (none)))) else (none)) else (none))=some r:=H
     have A13:=Aside0.mk A130
     clear A130
     by_cases c14 : 0 ≤ t756
     ·rw [if_pos c14] at H
      have c14b0:decide (0 ≤ t756)=true:=decide_eq_true c14
      clear c14
      by_cases c15:t756 < (x6_1.length:Int)
      ·rw [if_pos c15] at H
       have c15b0:decide (t756 < (x6_1.length:Int))=true:=decide_eq_true c15
       clear c15
       replace H:=Option.bind_eq_some_iff.mp H
       obtain ⟨⟨t767,t768⟩,A160,H⟩:=H
       replace H:(if t767 > 0 then (if x4_1.length < 2513169434916 then (spec_DrawProducersRun.l0 k1 (x4_1 ++ [(⟨t754,t755,t756,wrap64 (Int.tdiv t764 11),rd x6_1 t756,t759⟩:S34)]) t749 (x6_1.set (t756:Int).toNat (wrap64 ((rd x6_1 t756)+(t759.length:Int)))) (wrap64 (x7_1+1)) t743 t768) else (none)) else (if x4_1.length < 2513169434916 then (spec_DrawProducersRun.l0 k1 (x4_1 ++ [(⟨t754,t755,t756,wrap64 (Int.tdiv t764 11),rd x6_1 t756,t759⟩:S34)]) t749 x6_1 (wrap64 (x7_1+1)) t743 t768) else (none)))=some r:=H
       have A16:=Aside0.mk A160
       clear A160
       by_cases c17:t767 > 0
       ·rw [if_pos c17] at H
        have c17b0:decide (0 < t767)=true:=decide_eq_true c17
        clear c17
        obtain ⟨y769,hy769⟩:∃ y_:List Int,y_=(x6_1.set (t756:Int).toNat (wrap64 ((rd x6_1 t756)+(t759.length:Int)))):=⟨_,rfl⟩
        replace H:(if x4_1.length < 2513169434916 then (spec_DrawProducersRun.l0 k1 (x4_1 ++ [(⟨t754,t755,t756,wrap64 (Int.tdiv t764 11),rd x6_1 t756,t759⟩:S34)]) t749 y769 (wrap64 (x7_1+1)) t743 t768) else (none))=some r:=by first|(rw [hy769];with_reducible exact H)|(have H2_:=(Option.bind_some _ _).symm.trans H;rw [hy769];with_reducible exact H2_)|(have H2_:=(Option.bind_some _ _).symm.trans H;with_reducible exact H2_)|with_reducible exact H|(rw [hy769];exact H)|exact H
        have Ny769:=Aside0.mk hy769
        clear hy769
        by_cases c19:x4_1.length < 2513169434916
        ·rw [if_pos c19] at H
         have LMc19:=Aside0.mk c19
         clear c19
         obtain ⟨y770,hy770⟩:∃ y_:List (S34),y_=(x4_1 ++ [(⟨t754,t755,t756,wrap64 (Int.tdiv t764 11),rd x6_1 t756,t759⟩:S34)]):=⟨_,rfl⟩
         replace H:(spec_DrawProducersRun.l0 k1 y770 t749 y769 (wrap64 (x7_1+1)) t743 t768)=some r:=by first|(rw [hy770];with_reducible exact H)|(have H2_:=(Option.bind_some _ _).symm.trans H;rw [hy770];with_reducible exact H2_)|(have H2_:=(Option.bind_some _ _).symm.trans H;with_reducible exact H2_)|with_reducible exact H|(rw [hy770];exact H)|exact H
         have Ny770:=Aside0.mk hy770
         clear hy770
         have H':=Aside0.mk H
         clear H
         go_wp2_with (first|((with_reducible refine gate_callee (f:=68) rfl ?_);refine goesL_ (some 23) rfl rfl Try.func68 (by kernel_rfl) rfl #[.pointer (some ⟨g745,0,none⟩),.int .i64 (wrap64 (2 * x7_1))] rfl (by (try simp only [map_toArray,map_cons,map_nil]);first|done|rfl|(simp only [length_drop,length_take];rfl)) ?_;(with_reducible refine (spec_l91Batch.calls k1 g745 t743 x746001_1 (wrap64 (2 * x7_1)) t754 t755 t756 t757 t758 t759 t762 w _ ?side1 ?side2 A11.out).mono ?_);(case side1=>repeat (first|(with_reducible first|exact HI745.out|apply IsS92.alloc|apply IsS92.drewN|apply IsS92.drew|apply IsS92.set_1)|exact HI745.out));(case side2=>repeat (first|(with_reducible first|exact HB.out|apply below_alloc|apply pw_below_drewN|apply below_drew1|refine below_set ?_ (IsS92.ge HI745.out))|exact HB.out));rintro e w20 ⟨v760,rfl,ho0,hi,hb,hk⟩;refine ⟨_,rfl,?_⟩;have n0_:=Aside0.mk (Kd.N_mono (Kd.N_told (Kd.N_oldK (Kd.N_mono (ok:=fun k_=>(((w.heap.size ≤ k_))∧(some k_ ≠ (v752:Value).ownBlock∧k_ ≠ g745))) (by (with_reducible repeat (first|apply Kd.N_alloc|apply Kd.N_drewN|apply Kd.N_drew));exact HO_4.out) (fun k_ hk_=>(⟨hk_,hk_.2.2⟩:_∧k_ ≠ g745))) hk) (Kd.N_base ho0)) (fun _ h_=>h_.1));have n1_:=Aside0.mk (Kd.R_mono (Kd.R_keep (IsS92.apart (show IsS92 w _ g745 t743 x746001_1 from by repeat (first|(with_reducible first|exact HI745.out|apply IsS92.alloc|apply IsS92.drewN|apply IsS92.drew|apply IsS92.set_1)|exact HI745.out)) (by (with_reducible repeat (first|apply Kd.R_alloc|apply Kd.R_drewN|apply Kd.R_drew));exact HO_6.out) (by decide)) hk (fun _ h=>h.2)) (fun _ h=>h.1));have n2_:=Aside0.mk (Kd.N_lower (Kd.N_mono (ok':=fun k_=>(w.heap.size ≤ k_)∧some k_ ≠ (u4:Value).ownBlock∧some k_ ≠ (v752:Value).ownBlock∧k_ ≠ g745) ho0 (fun k_ hk_=>⟨(Nat.le_trans (below_size (by repeat (first|(with_reducible first|exact HB.out|apply below_alloc|apply pw_below_drewN|apply below_drew1|refine below_set ?_ (IsS92.ge HI745.out))|exact HB.out))) hk_),(Kd.fresh' (Kd.N_lt (by (with_reducible repeat (first|apply Kd.N_alloc|apply Kd.N_drewN|apply Kd.N_drew));exact HO_4.out)) k_ hk_),(Kd.fresh' (Kd.R_lt (by (with_reducible repeat (first|apply Kd.R_alloc|apply Kd.R_drewN|apply Kd.R_drew));exact HO_6.out)) k_ hk_),(IsS92.fresh (by repeat (first|(with_reducible first|exact HI745.out|apply IsS92.alloc|apply IsS92.drewN|apply IsS92.drew|apply IsS92.set_1)|exact HI745.out)) k_ hk_)⟩)) (below_size (by repeat (first|(with_reducible first|exact HB.out|apply below_alloc|apply pw_below_drewN|apply below_drew1|refine below_set ?_ (IsS92.ge HI745.out))|exact HB.out))));have n3_:=Aside0.mk (hb);have n4_:=Aside0.mk (hi);clear HO_4 HO_6 HB HI745;have HO_4:=n0_;have HO_6:=n1_;have HO761:=n2_;have HB:=n3_;have HI745:=n4_;clear n0_ n1_ n2_ n3_ n4_;(try clear hb);(try clear hb2);(try clear hk);(try clear hi);(try clear ho0))|((with_reducible refine gate_dst (N:=8) rfl ?_);refine box_event ?hg (N:=8) ?hd (cs:=#[.bool false,.bool false,.int .i64 0,.int .i64 0,.int .i64 0,.slice none 0 0]) (t:=34) ?hr ?_;(case hd=>rfl);(case hg=>rfl);(case hr=>first|(go_simp;done)|(go_simp;rfl));intro gb763 hg w21 hbox hb;have n0_:=Aside0.mk (Kd.N_below (Kd.N_elderB (by (with_reducible repeat (first|apply Kd.N_alloc|apply Kd.N_drewN|apply Kd.N_drew));exact HO_4.out) gb763 (Nat.le_of_eq hg.symm)) hb);have n1_:=Aside0.mk (Kd.R_below (by (with_reducible repeat (first|apply Kd.R_alloc|apply Kd.R_drewN|apply Kd.R_drew));exact HO_6.out) hb);have n2_:=Aside0.mk (Kd.N_below (Kd.N_elderB (by (with_reducible repeat (first|apply Kd.N_alloc|apply Kd.N_drewN|apply Kd.N_drew));exact HO761.out) gb763 (Nat.le_of_eq hg.symm)) hb);have n3_:=Aside0.mk (IsS92.below (by repeat (first|(with_reducible first|exact HI745.out|apply IsS92.alloc|apply IsS92.drewN|apply IsS92.drew|apply IsS92.set_1)|exact HI745.out)) hb);have n4_:=Aside0.mk (below_step (by repeat (first|(with_reducible first|exact HB.out|apply below_alloc|apply pw_below_drewN|apply below_drew1|refine below_set ?_ (IsS92.ge HI745.out))|exact HB.out)) hb);have n5_:=Aside0.mk (hbox);have n6_:=Aside0.mk ((by rw [hg];exact (below_size (by repeat (first|(with_reducible first|exact HB.out|apply below_alloc|apply pw_below_drewN|apply below_drew1|refine below_set ?_ (IsS92.ge HI745.out))|exact HB.out))):w.heap.size ≤ gb763));have n7_:=Aside0.mk ((by rw [hg];exact (below_size (by repeat (first|(with_reducible first|exact HB.out|apply below_alloc|apply pw_below_drewN|apply below_drew1|refine below_set ?_ (IsS92.ge HI745.out))|exact HB.out))):w.heap.size ≤ gb763));have n8_:=Aside0.mk ((by rw [hg];exact Nat.ne_of_lt (IsS92.lt (show IsS92 w _ g745 t743 t762 from by repeat (first|(with_reducible first|exact HI745.out|apply IsS92.alloc|apply IsS92.drewN|apply IsS92.drew|apply IsS92.set_1)|exact HI745.out))):g745 ≠ gb763));have n9_:=Aside0.mk ((by rw [hg];exact Nat.ne_of_gt (IsS92.lt (show IsS92 w _ g745 t743 t762 from by repeat (first|(with_reducible first|exact HI745.out|apply IsS92.alloc|apply IsS92.drewN|apply IsS92.drew|apply IsS92.set_1)|exact HI745.out))):gb763 ≠ g745));clear HO_4 HO_6 HO761 HI745 HB;have HO_4:=n0_;have HO_6:=n1_;have HO761:=n2_;have HI745:=n3_;have HB:=n4_;have BK763:=n5_;have GW763:=n6_;have GE763:=n7_;have NB745_763:=n8_;have NB763_745:=n9_;clear n0_ n1_ n2_ n3_ n4_ n5_ n6_ n7_ n8_ n9_;clear hb hbox hg;have hnb22:=NB763_745.out;have hnc22:=NB745_763.out;have hcz23_0:w21.cell? ⟨gb763,0,none⟩=some (.bool false):=(blk_cell BK763.out 0).trans rfl;have hcz23_1:w21.cell? ⟨gb763,1,none⟩=some (.bool false):=(blk_cell BK763.out 1).trans rfl;have hcz23_2:w21.cell? ⟨gb763,2,none⟩=some (.int .i64 0):=(blk_cell BK763.out 2).trans rfl;have hcz23_3:w21.cell? ⟨gb763,3,none⟩=some (.int .i64 0):=(blk_cell BK763.out 3).trans rfl;have hcz23_4:w21.cell? ⟨gb763,4,none⟩=some (.int .i64 0):=(blk_cell BK763.out 4).trans rfl;have hcz23_5:w21.cell? ⟨gb763,5,none⟩=some (.slice none 0 0):=(blk_cell BK763.out 5).trans rfl;have hfz23_0:=blk_frozen BK763.out 0;have hfz23_1:=blk_frozen BK763.out 1;have hfz23_2:=blk_frozen BK763.out 2;have hfz23_3:=blk_frozen BK763.out 3;have hfz23_4:=blk_frozen BK763.out 4;have hfz23_5:=blk_frozen BK763.out 5;obtain ⟨Ao24,co24,eo24⟩:=Kd.N_slice HO761.out;subst eo24)|((with_reducible refine gate_callee (f:=67) rfl ?_);refine goesL_ (some 28) rfl rfl Try.func67 (by kernel_rfl) rfl #[.pointer (some ⟨g745,0,none⟩),.int .i64 12] rfl (by (try simp only [map_toArray,map_cons,map_nil]);first|done|rfl|(simp only [length_drop,length_take];rfl)) ?_;(with_reducible refine (spec_l6Rd_pick.calls k1 g745 t743 t762 12 t764 t765 w _ ?side1 ?side2 A13.out).mono ?_);(case side1=>repeat (first|(with_reducible first|exact HI745.out|apply IsS92.alloc|apply IsS92.drewN|apply IsS92.drew|apply IsS92.set_1|refine IsS92.far ?_ NB745_763.out _)|exact HI745.out));(case side2=>repeat (first|(with_reducible first|exact HB.out|apply below_alloc|apply pw_below_drewN|apply below_drew1|refine below_set ?_ (IsS92.ge HI745.out)|refine below_set ?_ GE763.out)|exact HB.out));rintro e w25 ⟨rfl,hi,hb,hk⟩;refine ⟨_,rfl,?_⟩;have n0_:=Aside0.mk (Kd.N_mono (Kd.N_keep (Kd.N_mono (ok:=fun k_=>(((((w.heap.size ≤ k_))∧(some k_ ≠ (v752:Value).ownBlock∧k_ ≠ g745))∧some k_ ≠ (.slice Ao24 t759.length co24:Value).ownBlock)∧k_ ≠ gb763)) (by (with_reducible repeat (first|apply Kd.N_alloc|apply Kd.N_drewN|apply Kd.N_drew));exact (Kd.N_mono (Kd.N_far (p:=⟨gb763,5,none⟩) (Kd.N_far (p:=⟨gb763,4,none⟩) (Kd.N_far (p:=⟨gb763,3,none⟩) (Kd.N_far (p:=⟨gb763,2,none⟩) (Kd.N_far (p:=⟨gb763,1,none⟩) (Kd.N_far (p:=⟨gb763,0,none⟩) (Kd.N_mono HO_4.out (fun k_ hk=>(⟨hk,hk.2⟩:_∧k_ ≠ gb763))) (fun _ hk=>hk.2) (.bool t754)) (fun _ hk=>hk.2) (.bool t755)) (fun _ hk=>hk.2) (.int .i64 t756)) (fun _ hk=>hk.2) (.int .i64 t757)) (fun _ hk=>hk.2) (.int .i64 t758)) (fun _ hk=>hk.2) (.slice Ao24 t759.length co24)) (fun _ h_=>h_.1))) (fun k_ hk_=>(⟨hk_,hk_.1.1.2.2⟩:_∧k_ ≠ g745))) hk (fun _ h=>h.2)) (fun _ h=>h.1));have n1_:=Aside0.mk (Kd.R_mono (Kd.R_keep (IsS92.apart (show IsS92 w _ g745 t743 t762 from by repeat (first|(with_reducible first|exact HI745.out|apply IsS92.alloc|apply IsS92.drewN|apply IsS92.drew|apply IsS92.set_1|refine IsS92.far ?_ NB745_763.out _)|exact HI745.out)) (by (with_reducible repeat (first|apply Kd.R_alloc|apply Kd.R_drewN|apply Kd.R_drew));exact (Kd.R_mono (Kd.R_far (p:=⟨gb763,5,none⟩) (Kd.R_far (p:=⟨gb763,4,none⟩) (Kd.R_far (p:=⟨gb763,3,none⟩) (Kd.R_far (p:=⟨gb763,2,none⟩) (Kd.R_far (p:=⟨gb763,1,none⟩) (Kd.R_far (p:=⟨gb763,0,none⟩) (Kd.R_types HO_6.out BK763.out (by decide)) (fun _ hk=>hk.2) (.bool t754)) (fun _ hk=>hk.2) (.bool t755)) (fun _ hk=>hk.2) (.int .i64 t756)) (fun _ hk=>hk.2) (.int .i64 t757)) (fun _ hk=>hk.2) (.int .i64 t758)) (fun _ hk=>hk.2) (.slice Ao24 t759.length co24)) (fun _ h_=>h_.1))) (by decide)) hk (fun _ h=>h.2)) (fun _ h=>h.1));have n2_:=Aside0.mk (Kd.N_mono (Kd.N_keep (Kd.N_mono (ok:=fun k_=>((((w.heap.size ≤ k_))∧(some k_ ≠ (u4:Value).ownBlock∧(some k_ ≠ (v752:Value).ownBlock∧k_ ≠ g745)))∧k_ ≠ gb763)) (by (with_reducible repeat (first|apply Kd.N_alloc|apply Kd.N_drewN|apply Kd.N_drew));exact (Kd.N_mono (Kd.N_far (p:=⟨gb763,5,none⟩) (Kd.N_far (p:=⟨gb763,4,none⟩) (Kd.N_far (p:=⟨gb763,3,none⟩) (Kd.N_far (p:=⟨gb763,2,none⟩) (Kd.N_far (p:=⟨gb763,1,none⟩) (Kd.N_far (p:=⟨gb763,0,none⟩) (Kd.N_mono HO761.out (fun k_ hk=>(⟨hk,hk.2⟩:_∧k_ ≠ gb763))) (fun _ hk=>hk.2) (.bool t754)) (fun _ hk=>hk.2) (.bool t755)) (fun _ hk=>hk.2) (.int .i64 t756)) (fun _ hk=>hk.2) (.int .i64 t757)) (fun _ hk=>hk.2) (.int .i64 t758)) (fun _ hk=>hk.2) (.slice Ao24 t759.length co24)) (fun _ h_=>h_.1))) (fun k_ hk_=>(⟨hk_,hk_.1.2.2.2⟩:_∧k_ ≠ g745))) hk (fun _ h=>h.2)) (fun _ h=>h.1));have n3_:=Aside0.mk (KeepBut.blk hk (g':=gb763) (o:=.cells #[.bool t754,.bool t755,.int .i64 t756,.int .i64 t757,.int .i64 t758,.slice Ao24 t759.length co24] 34 (0,0)) (by (with_reducible repeat (first|refine blk_drewN ?_ _|refine blk_drew ?_|refine blk_alloc ?_ _));refine blk_put (cs:=#[.bool t754,.bool t755,.int .i64 t756,.int .i64 t757,.int .i64 t758,.slice none 0 0]) ?_ 5 _ rfl;(with_reducible repeat (first|refine blk_drewN ?_ _|refine blk_drew ?_|refine blk_alloc ?_ _));refine blk_put (cs:=#[.bool t754,.bool t755,.int .i64 t756,.int .i64 t757,.int .i64 0,.slice none 0 0]) ?_ 4 _ rfl;(with_reducible repeat (first|refine blk_drewN ?_ _|refine blk_drew ?_|refine blk_alloc ?_ _));refine blk_put (cs:=#[.bool t754,.bool t755,.int .i64 t756,.int .i64 0,.int .i64 0,.slice none 0 0]) ?_ 3 _ rfl;(with_reducible repeat (first|refine blk_drewN ?_ _|refine blk_drew ?_|refine blk_alloc ?_ _));refine blk_put (cs:=#[.bool t754,.bool t755,.int .i64 0,.int .i64 0,.int .i64 0,.slice none 0 0]) ?_ 2 _ rfl;(with_reducible repeat (first|refine blk_drewN ?_ _|refine blk_drew ?_|refine blk_alloc ?_ _));refine blk_put (cs:=#[.bool t754,.bool false,.int .i64 0,.int .i64 0,.int .i64 0,.slice none 0 0]) ?_ 1 _ rfl;(with_reducible repeat (first|refine blk_drewN ?_ _|refine blk_drew ?_|refine blk_alloc ?_ _));refine blk_put (cs:=#[.bool false,.bool false,.int .i64 0,.int .i64 0,.int .i64 0,.slice none 0 0]) ?_ 0 _ rfl;(with_reducible repeat (first|refine blk_drewN ?_ _|refine blk_drew ?_|refine blk_alloc ?_ _));exact BK763.out) NB763_745.out (by simp));have n4_:=Aside0.mk (hb);have n5_:=Aside0.mk (hi);clear HO_4 HO_6 HO761 BK763 HB HI745;have HO_4:=n0_;have HO_6:=n1_;have HO761:=n2_;have BK763:=n3_;have HB:=n4_;have HI745:=n5_;clear n0_ n1_ n2_ n3_ n4_ n5_;(try clear hb);(try clear hb2);(try clear hk);(try clear hi);have hcz26_0:w25.cell? ⟨gb763,0,none⟩=some (.bool t754):=(blk_cell BK763.out 0).trans rfl;have hcz26_1:w25.cell? ⟨gb763,1,none⟩=some (.bool t755):=(blk_cell BK763.out 1).trans rfl;have hcz26_2:w25.cell? ⟨gb763,2,none⟩=some (.int .i64 t756):=(blk_cell BK763.out 2).trans rfl;have hcz26_3:w25.cell? ⟨gb763,3,none⟩=some (.int .i64 t757):=(blk_cell BK763.out 3).trans rfl;have hcz26_4:w25.cell? ⟨gb763,4,none⟩=some (.int .i64 t758):=(blk_cell BK763.out 4).trans rfl;have hcz26_5:w25.cell? ⟨gb763,5,none⟩=some (.slice Ao24 t759.length co24):=(blk_cell BK763.out 5).trans rfl;have hfz26_0:=blk_frozen BK763.out 0;have hfz26_1:=blk_frozen BK763.out 1;have hfz26_2:=blk_frozen BK763.out 2;have hfz26_3:=blk_frozen BK763.out 3;have hfz26_4:=blk_frozen BK763.out 4;have hfz26_5:=blk_frozen BK763.out 5;obtain ⟨Ao27,co27,eo27⟩:=Kd.R_slice HO_6.out;subst eo27;have p766 : 0 ≤ (t756:Int):=of_decide_eq_true (by first|(with_reducible assumption)|assumption);have q766:t756 < (x6_1.length:Int):=of_decide_eq_true (by first|(with_reducible assumption)|assumption);obtain ⟨ad766,e766,hx766_0⟩:=Kd.at_int (Kd.R_reads' HO_6.out).2.2 t756 p766 q766;cases e766;have hn766_0:ad766.block ≠ gb763:=Kd.own_blk (Kd.R_ne HO_6.out BK763.out (by decide));replace hx766_0:=(cell_far (p:=⟨gb763,3,none⟩) (by first|(rw [add_block];exact hn766_0)|(show (Addr.add _ _).block ≠ _;rw [add_block];exact hn766_0)|exact hn766_0) (.int .i64 (wrap64 (Int.tdiv t764 11)))).trans hx766_0;clear hn766_0;replace p766:=eq_true p766;replace q766:=eq_true q766)|((with_reducible refine gate_callee (f:=67) rfl ?_);refine goesL_ (some 38) rfl rfl Try.func67 (by kernel_rfl) rfl #[.pointer (some ⟨g745,0,none⟩),.int .i64 5] rfl (by (try simp only [map_toArray,map_cons,map_nil]);first|done|rfl|(simp only [length_drop,length_take];rfl)) ?_;(with_reducible refine (spec_l6Rd_pick.calls k1 g745 t743 t765 5 t767 t768 w _ ?side1 ?side2 A16.out).mono ?_);(case side1=>repeat (first|(with_reducible first|exact HI745.out|apply IsS92.alloc|apply IsS92.drewN|apply IsS92.drew|apply IsS92.set_1|refine IsS92.far ?_ NB745_763.out _)|exact HI745.out));(case side2=>repeat (first|(with_reducible first|exact HB.out|apply below_alloc|apply pw_below_drewN|apply below_drew1|refine below_set ?_ (IsS92.ge HI745.out)|refine below_set ?_ GE763.out)|exact HB.out));rintro e w28 ⟨rfl,hi,hb,hk⟩;refine ⟨_,rfl,?_⟩;have n0_:=Aside0.mk (Kd.N_mono (Kd.N_keep (Kd.N_mono (ok:=fun k_=>(((((w.heap.size ≤ k_))∧(some k_ ≠ (.slice (some ad766) x6_1.length co27:Value).ownBlock∧k_ ≠ g745))∧some k_ ≠ (.slice Ao24 t759.length co24:Value).ownBlock)∧k_ ≠ gb763)) (by (with_reducible repeat (first|apply Kd.N_alloc|apply Kd.N_drewN|apply Kd.N_drew));exact (Kd.N_mono (Kd.N_far (p:=⟨gb763,4,none⟩) (Kd.N_far (p:=⟨gb763,3,none⟩) (Kd.N_mono HO_4.out (fun k_ hk=>(⟨hk,hk.2⟩:_∧k_ ≠ gb763))) (fun _ hk=>hk.2) (.int .i64 (wrap64 (Int.tdiv t764 11)))) (fun _ hk=>hk.2) (.int .i64 (rd x6_1 t756))) (fun _ h_=>h_.1))) (fun k_ hk_=>(⟨hk_,hk_.1.1.2.2⟩:_∧k_ ≠ g745))) hk (fun _ h=>h.2)) (fun _ h=>h.1));have n1_:=Aside0.mk (Kd.R_mono (Kd.R_keep (IsS92.apart (show IsS92 w _ g745 t743 t765 from by repeat (first|(with_reducible first|exact HI745.out|apply IsS92.alloc|apply IsS92.drewN|apply IsS92.drew|apply IsS92.set_1|refine IsS92.far ?_ NB745_763.out _)|exact HI745.out)) (by (with_reducible repeat (first|apply Kd.R_alloc|apply Kd.R_drewN|apply Kd.R_drew));exact (Kd.R_mono (Kd.R_far (p:=⟨gb763,4,none⟩) (Kd.R_far (p:=⟨gb763,3,none⟩) (Kd.R_types HO_6.out BK763.out (by decide)) (fun _ hk=>hk.2) (.int .i64 (wrap64 (Int.tdiv t764 11)))) (fun _ hk=>hk.2) (.int .i64 (rd x6_1 t756))) (fun _ h_=>h_.1))) (by decide)) hk (fun _ h=>h.2)) (fun _ h=>h.1));have n2_:=Aside0.mk (Kd.N_mono (Kd.N_keep (Kd.N_mono (ok:=fun k_=>((((w.heap.size ≤ k_))∧(some k_ ≠ (u4:Value).ownBlock∧(some k_ ≠ (.slice (some ad766) x6_1.length co27:Value).ownBlock∧k_ ≠ g745)))∧k_ ≠ gb763)) (by (with_reducible repeat (first|apply Kd.N_alloc|apply Kd.N_drewN|apply Kd.N_drew));exact (Kd.N_mono (Kd.N_far (p:=⟨gb763,4,none⟩) (Kd.N_far (p:=⟨gb763,3,none⟩) (Kd.N_mono HO761.out (fun k_ hk=>(⟨hk,hk.2⟩:_∧k_ ≠ gb763))) (fun _ hk=>hk.2) (.int .i64 (wrap64 (Int.tdiv t764 11)))) (fun _ hk=>hk.2) (.int .i64 (rd x6_1 t756))) (fun _ h_=>h_.1))) (fun k_ hk_=>(⟨hk_,hk_.1.2.2.2⟩:_∧k_ ≠ g745))) hk (fun _ h=>h.2)) (fun _ h=>h.1));have n3_:=Aside0.mk (KeepBut.blk hk (g':=gb763) (o:=.cells #[.bool t754,.bool t755,.int .i64 t756,.int .i64 (wrap64 (Int.tdiv t764 11)),.int .i64 (rd x6_1 t756),.slice Ao24 t759.length co24] 34 (0,0)) (by (with_reducible repeat (first|refine blk_drewN ?_ _|refine blk_drew ?_|refine blk_alloc ?_ _));refine blk_put (cs:=#[.bool t754,.bool t755,.int .i64 t756,.int .i64 (wrap64 (Int.tdiv t764 11)),.int .i64 t758,.slice Ao24 t759.length co24]) ?_ 4 _ rfl;(with_reducible repeat (first|refine blk_drewN ?_ _|refine blk_drew ?_|refine blk_alloc ?_ _));refine blk_put (cs:=#[.bool t754,.bool t755,.int .i64 t756,.int .i64 t757,.int .i64 t758,.slice Ao24 t759.length co24]) ?_ 3 _ rfl;(with_reducible repeat (first|refine blk_drewN ?_ _|refine blk_drew ?_|refine blk_alloc ?_ _));exact BK763.out) NB763_745.out (by simp));have n4_:=Aside0.mk (hb);have n5_:=Aside0.mk (hi);clear HO_4 HO_6 HO761 BK763 HB HI745;have HO_4:=n0_;have HO_6:=n1_;have HO761:=n2_;have BK763:=n3_;have HB:=n4_;have HI745:=n5_;clear n0_ n1_ n2_ n3_ n4_ n5_;(try clear hb);(try clear hb2);(try clear hk);(try clear hi);have hcz29_0:w28.cell? ⟨gb763,0,none⟩=some (.bool t754):=(blk_cell BK763.out 0).trans rfl;have hcz29_1:w28.cell? ⟨gb763,1,none⟩=some (.bool t755):=(blk_cell BK763.out 1).trans rfl;have hcz29_2:w28.cell? ⟨gb763,2,none⟩=some (.int .i64 t756):=(blk_cell BK763.out 2).trans rfl;have hcz29_3:w28.cell? ⟨gb763,3,none⟩=some (.int .i64 (wrap64 (Int.tdiv t764 11))):=(blk_cell BK763.out 3).trans rfl;have hcz29_4:w28.cell? ⟨gb763,4,none⟩=some (.int .i64 (rd x6_1 t756)):=(blk_cell BK763.out 4).trans rfl;have hcz29_5:w28.cell? ⟨gb763,5,none⟩=some (.slice Ao24 t759.length co24):=(blk_cell BK763.out 5).trans rfl;have hfz29_0:=blk_frozen BK763.out 0;have hfz29_1:=blk_frozen BK763.out 1;have hfz29_2:=blk_frozen BK763.out 2;have hfz29_3:=blk_frozen BK763.out 3;have hfz29_4:=blk_frozen BK763.out 4;have hfz29_5:=blk_frozen BK763.out 5;have p18 : 0 ≤ (t756:Int):=of_decide_eq_true (by first|(with_reducible assumption)|assumption);have q18:(t756:Int) < ((x6_1.length:Int):Int):=of_decide_eq_true (by first|(with_reducible assumption)|assumption);obtain ⟨go18,co18,eo18,gb18,gl18,cl18,HG18⟩:=Kd.R_form HO_6.out (by omega);(first|cases eo18|(injection eo18 with ea_ en_ ec_;(first|subst ea_|(injection ea_ with ea_;subst ea_));subst ec_;clear en_));have GB18:=Aside0.mk gb18;have GG18:=Aside0.mk HG18;clear gb18 gl18 HG18;(first|simp only [add_plain] at hx766_0|skip);obtain ⟨hx18_0,hf18_0⟩:=Kd.R_celln 0 HO_6.out (t756:Int) p18 q18;replace p18:=eq_true p18;replace q18:=eq_true q18;obtain ⟨hy30_,hz30_⟩:=Kd.R_celln 0 HO_6.out (t756:Int) (of_decide_eq_true (by first|(with_reducible assumption)|assumption)) (of_decide_eq_true (by first|(with_reducible assumption)|assumption));have HP30:=Kd.R_putg HO_6.out (t756:Int) (wrap64 ((rd x6_1 t756)+(t759.length:Int))))|((with_reducible refine gate_store (t:=3) (p:=49) rfl ?_);refine store_event (t:=3) (p:=49) (v:=?vo_w31) (w1:=(w28.setCell ⟨go18,(t756:Int).toNat,none⟩ (.int .i64 (wrap64 ((rd x6_1 t756)+(t759.length:Int)))))) ?hg ?ho ?hn ?hr ?_;(case ho=>rfl);(case hg=>rfl);(case hn=>rfl);(case hr=>first|(go_simp;done)|(go_simp;rfl));intro w31 hw;have hg:w28.grownBy w31 (some go18):=(by rw [hw];exact HP30.2);have hp_:Kd.R (Kd.int .i64) 3 w31 w.heap.size (fun k_=>(w.heap.size ≤ k_)) (.slice (some ⟨go18,0,none⟩) x6_1.length co27) y769:=(by rw [hw,Ny769.out];exact HP30.1);clear HP30;have n0_:=Aside0.mk (Kd.N_afterv (v:=(.slice (some ⟨go18,0,none⟩) x6_1.length co27)) (v1:=(.slice (some ⟨go18,0,none⟩) x6_1.length co27)) (ok:=(fun k_=>(w.heap.size ≤ k_)∧some k_ ≠ (.slice Ao24 t759.length co24:Value).ownBlock∧k_ ≠ g745∧k_ ≠ gb763)) (by (with_reducible repeat (first|apply Kd.N_alloc|apply Kd.N_drewN|apply Kd.N_drew));exact Kd.N_mono HO_4.out (fun _ hk=>⟨⟨hk.1.1.1,⟨hk.1.2,⟨hk.1.1.2.2,hk.2⟩⟩⟩,hk.1.1.2.1⟩)) hg (.inl rfl));have n1_:=Aside0.mk (hp_);have n2_:=Aside0.mk (IsS92.grown (by repeat (first|(with_reducible first|exact HI745.out|apply IsS92.alloc|apply IsS92.drewN|apply IsS92.drew|apply IsS92.set_1|refine IsS92.far ?_ NB745_763.out _)|exact HI745.out)) hg (IsS92.own_ne HI745.out HO_6.out (by decide)));have n3_:=Aside0.mk (Kd.N_afterv (v:=(.slice (some ⟨go18,0,none⟩) x6_1.length co27)) (v1:=(.slice (some ⟨go18,0,none⟩) x6_1.length co27)) (ok:=(fun k_=>(w.heap.size ≤ k_)∧some k_ ≠ (u4:Value).ownBlock∧k_ ≠ g745∧k_ ≠ gb763)) (by (with_reducible repeat (first|apply Kd.N_alloc|apply Kd.N_drewN|apply Kd.N_drew));exact Kd.N_mono HO761.out (fun _ hk=>⟨⟨hk.1.1,⟨hk.1.2.1,⟨hk.1.2.2.2,hk.2⟩⟩⟩,hk.1.2.2.1⟩)) hg (.inl rfl));have n4_:=Aside0.mk (blk_grown (g:=gb763) (o:=.cells #[.bool t754,.bool t755,.int .i64 t756,.int .i64 (wrap64 (Int.tdiv t764 11)),.int .i64 (rd x6_1 t756),.slice Ao24 t759.length co24] 34 (0,0)) (by (with_reducible repeat (first|refine blk_drewN ?_ _|refine blk_drew ?_|refine blk_alloc ?_ _));exact BK763.out) hg (Kd.R_ne HO_6.out BK763.out (by decide)));have n5_:=Aside0.mk ((by rw [hw];exact below_set (HB.out) GB18.out:Below w.heap.size w w31));clear HO_4 HO_6 HI745 HO761 BK763 HB;have HO_4:=n0_;have HO_6:=n1_;have HI745:=n2_;have HO761:=n3_;have BK763:=n4_;have HB:=n5_;clear n0_ n1_ n2_ n3_ n4_ n5_;clear hg hw hp_;have hcz32_0:w31.cell? ⟨gb763,0,none⟩=some (.bool t754):=(blk_cell BK763.out 0).trans rfl;have hcz32_1:w31.cell? ⟨gb763,1,none⟩=some (.bool t755):=(blk_cell BK763.out 1).trans rfl;have hcz32_2:w31.cell? ⟨gb763,2,none⟩=some (.int .i64 t756):=(blk_cell BK763.out 2).trans rfl;have hcz32_3:w31.cell? ⟨gb763,3,none⟩=some (.int .i64 (wrap64 (Int.tdiv t764 11))):=(blk_cell BK763.out 3).trans rfl;have hcz32_4:w31.cell? ⟨gb763,4,none⟩=some (.int .i64 (rd x6_1 t756)):=(blk_cell BK763.out 4).trans rfl;have hcz32_5:w31.cell? ⟨gb763,5,none⟩=some (.slice Ao24 t759.length co24):=(blk_cell BK763.out 5).trans rfl;have hfz32_0:=blk_frozen BK763.out 0;have hfz32_1:=blk_frozen BK763.out 1;have hfz32_2:=blk_frozen BK763.out 2;have hfz32_3:=blk_frozen BK763.out 3;have hfz32_4:=blk_frozen BK763.out 4;have hfz32_5:=blk_frozen BK763.out 5)|((with_reducible refine gate_builtin (b:=.append) (xs:=#[.tmp 50,.tmp 52]) rfl ?_);at_builtin;refine Kd.N_append k34 (w0:=w) w.heap.size rfl (.tmp 50) (.tmp 52) 51 34 (.agg #[(.bool false),(.bool false),(.int .i64 0),(.int .i64 0),(.int .i64 0),(.slice none 0 0)]) 56 rfl Try.underlying51 info34 rfl (by decide) (by omega) u4 x4_1 (⟨t754,t755,t756,wrap64 (Int.tdiv t764 11),rd x6_1 t756,t759⟩:S34) [.bool t754,.bool t755,.int .i64 t756,.int .i64 (wrap64 (Int.tdiv t764 11)),.int .i64 (rd x6_1 t756),.slice Ao24 t759.length co24] (fun k_=>(w.heap.size ≤ k_)∧some k_ ≠ (.slice (some ⟨go18,0,none⟩) x6_1.length co27:Value).ownBlock∧k_ ≠ gb763∧k_ ≠ g745) (fun k_=>((fun k_=>(w.heap.size ≤ k_)∧some k_ ≠ (.slice (some ⟨go18,0,none⟩) x6_1.length co27:Value).ownBlock∧k_ ≠ gb763∧k_ ≠ g745)) k_∧some k_ ≠ (u4:Value).ownBlock) rfl rfl ?aP (fun _ hk=>hk) ?aF ?aO ?aB ?aS ?aL ?_;(case aP=>exact (k34_mkF _ _ (⟨t754,t755,t756,wrap64 (Int.tdiv t764 11),rd x6_1 t756,t759⟩:S34) (Kd.N_reads' (Kd.N_mono (ok':=(fun k_=>((fun k_=>(w.heap.size ≤ k_)∧some k_ ≠ (.slice (some ⟨go18,0,none⟩) x6_1.length co27:Value).ownBlock∧k_ ≠ gb763∧k_ ≠ g745)) k_∧some k_ ≠ (u4:Value).ownBlock)) (HO761.out) (fun k_ hk=>⟨⟨hk.1.1,⟨hk.2,⟨hk.1.2.2.2,hk.1.2.2.1⟩⟩⟩,hk.1.2.1⟩))).2.1 (Kd.N_F (Kd.N_mono (ok':=(fun k_=>((fun k_=>(w.heap.size ≤ k_)∧some k_ ≠ (.slice (some ⟨go18,0,none⟩) x6_1.length co27:Value).ownBlock∧k_ ≠ gb763∧k_ ≠ g745)) k_∧some k_ ≠ (u4:Value).ownBlock)) (HO761.out) (fun k_ hk=>⟨⟨hk.1.1,⟨hk.2,⟨hk.1.2.2.2,hk.1.2.2.1⟩⟩⟩,hk.1.2.1⟩)))));(case aB=>exact (by repeat (first|(with_reducible first|exact HB.out|apply below_alloc|apply pw_below_drewN|apply below_drew1|refine below_set ?_ (IsS92.ge HI745.out)|refine below_set ?_ GE763.out)|exact HB.out)));(case aF=>exact (fun k_ hk=>⟨(Nat.le_trans (below_size (by repeat (first|(with_reducible first|exact HB.out|apply below_alloc|apply pw_below_drewN|apply below_drew1|refine below_set ?_ (IsS92.ge HI745.out)|refine below_set ?_ GE763.out)|exact HB.out))) hk),Kd.fresh' (Kd.R_lt (by (with_reducible repeat (first|apply Kd.R_alloc|apply Kd.R_drewN|apply Kd.R_drew));exact HO_6.out)) k_ hk,Kd.freshB (g:=gb763) (o:=.cells #[.bool t754,.bool t755,.int .i64 t756,.int .i64 (wrap64 (Int.tdiv t764 11)),.int .i64 (rd x6_1 t756),.slice Ao24 t759.length co24] 34 (0,0)) (by (with_reducible repeat (first|refine blk_drewN ?_ _|refine blk_drew ?_|refine blk_alloc ?_ _));exact BK763.out) k_ hk,IsS92.fresh (by repeat (first|(with_reducible first|exact HI745.out|apply IsS92.alloc|apply IsS92.drewN|apply IsS92.drew|apply IsS92.set_1|refine IsS92.far ?_ NB745_763.out _)|exact HI745.out)) k_ hk⟩));(case aO=>exact (by (with_reducible repeat (first|apply Kd.N_alloc|apply Kd.N_drewN|apply Kd.N_drew));exact Kd.N_mono HO_4.out (fun _ hk=>⟨hk.1.1,⟨hk.2,⟨hk.1.2.2.2,hk.1.2.2.1⟩⟩⟩)));(case aS=>exact (below_size (by repeat (first|(with_reducible first|exact HB.out|apply below_alloc|apply pw_below_drewN|apply below_drew1|refine below_set ?_ (IsS92.ge HI745.out)|refine below_set ?_ GE763.out)|exact HB.out))));(case aL=>have:=LMc19.out;omega);intro v771 w33 ho hb hg hat;rw [← Ny770.out] at ho;have n0_:=Aside0.mk (Kd.R_over' (by (with_reducible repeat (first|apply Kd.R_alloc|apply Kd.R_drewN|apply Kd.R_drew));exact HO_6.out) (Kd.N_typed (by (with_reducible repeat (first|apply Kd.N_alloc|apply Kd.N_drewN|apply Kd.N_drew));exact HO_4.out)) (by decide) hg);have n1_:=Aside0.mk (IsS92.grown (by repeat (first|(with_reducible first|exact HI745.out|apply IsS92.alloc|apply IsS92.drewN|apply IsS92.drew|apply IsS92.set_1|refine IsS92.far ?_ NB745_763.out _)|exact HI745.out)) hg (IsS92.own_neN HI745.out HO_4.out (by decide)));have n2_:=Aside0.mk (blk_grown (g:=gb763) (o:=.cells #[.bool t754,.bool t755,.int .i64 t756,.int .i64 (wrap64 (Int.tdiv t764 11)),.int .i64 (rd x6_1 t756),.slice Ao24 t759.length co24] 34 (0,0)) (by (with_reducible repeat (first|refine blk_drewN ?_ _|refine blk_drew ?_|refine blk_alloc ?_ _));exact BK763.out) hg (Kd.N_away HO_4.out (fun _ hk=>hk.1.2.2.2)));have n3_:=Aside0.mk (hb);have n4_:=Aside0.mk (ho);clear HO_6 HI745 BK763 HB HO_4 HO761;have HO_6:=n0_;have HI745:=n1_;have BK763:=n2_;have HB:=n3_;have HO772:=n4_;clear n0_ n1_ n2_ n3_ n4_;clear ho hb hg hat))
         go_roundg k1
         case measure=>have:=HK1.out;omega
         case rel=>exact ⟨(y770),(y769),(wrap64 (x7_1+1)),(t768),(by first|rfl|(simp;done)|(simp [*];done)),H',⟨by have:=HK1.out;omega⟩,⟨by (with_reducible repeat (first|apply Kd.N_alloc|apply Kd.N_drewN|apply Kd.N_drew));exact Kd.N_mono HO772.out (fun _ hk=>⟨hk.1,⟨hk.2.1,hk.2.2.2⟩⟩)⟩,⟨by (with_reducible repeat (first|apply Kd.R_alloc|apply Kd.R_drewN|apply Kd.R_drew));exact HO_6.out⟩,⟨by repeat (first|(with_reducible first|exact HI745.out|apply IsS92.alloc|apply IsS92.drewN|apply IsS92.drew|apply IsS92.set_1|refine IsS92.far ?_ NB745_763.out _)|exact HI745.out)⟩,⟨by repeat (first|(with_reducible first|exact HB.out|apply below_alloc|apply pw_below_drewN|apply below_drew1|refine below_set ?_ (IsS92.ge HI745.out)|refine below_set ?_ GE763.out)|exact HB.out)⟩⟩
        ·rw [if_neg c19] at H
         exact absurd H (by simp)
       ·rw [if_neg c17] at H
        have c17b0:decide (0 < t767)=false:=decide_eq_false c17
        clear c17
        by_cases c34:x4_1.length < 2513169434916
        ·rw [if_pos c34] at H
         have LMc34:=Aside0.mk c34
         clear c34
         obtain ⟨y773,hy773⟩:∃ y_:List (S34),y_=(x4_1 ++ [(⟨t754,t755,t756,wrap64 (Int.tdiv t764 11),rd x6_1 t756,t759⟩:S34)]):=⟨_,rfl⟩
         replace H:(spec_DrawProducersRun.l0 k1 y773 t749 x6_1 (wrap64 (x7_1+1)) t743 t768)=some r:=by first|(rw [hy773];with_reducible exact H)|(have H2_:=(Option.bind_some _ _).symm.trans H;rw [hy773];with_reducible exact H2_)|(have H2_:=(Option.bind_some _ _).symm.trans H;with_reducible exact H2_)|with_reducible exact H|(rw [hy773];exact H)|exact H
         have Ny773:=Aside0.mk hy773
         clear hy773
         have H':=Aside0.mk H
         clear H
         go_wp2_with (first|((with_reducible refine gate_callee (f:=68) rfl ?_);refine goesL_ (some 23) rfl rfl Try.func68 (by kernel_rfl) rfl #[.pointer (some ⟨g745,0,none⟩),.int .i64 (wrap64 (2 * x7_1))] rfl (by (try simp only [map_toArray,map_cons,map_nil]);first|done|rfl|(simp only [length_drop,length_take];rfl)) ?_;(with_reducible refine (spec_l91Batch.calls k1 g745 t743 x746001_1 (wrap64 (2 * x7_1)) t754 t755 t756 t757 t758 t759 t762 w _ ?side1 ?side2 A11.out).mono ?_);(case side1=>repeat (first|(with_reducible first|exact HI745.out|apply IsS92.alloc|apply IsS92.drewN|apply IsS92.drew|apply IsS92.set_1)|exact HI745.out));(case side2=>repeat (first|(with_reducible first|exact HB.out|apply below_alloc|apply pw_below_drewN|apply below_drew1|refine below_set ?_ (IsS92.ge HI745.out))|exact HB.out));rintro e w35 ⟨v760,rfl,ho0,hi,hb,hk⟩;refine ⟨_,rfl,?_⟩;have n0_:=Aside0.mk (Kd.N_mono (Kd.N_told (Kd.N_oldK (Kd.N_mono (ok:=fun k_=>(((w.heap.size ≤ k_))∧(some k_ ≠ (v752:Value).ownBlock∧k_ ≠ g745))) (by (with_reducible repeat (first|apply Kd.N_alloc|apply Kd.N_drewN|apply Kd.N_drew));exact HO_4.out) (fun k_ hk_=>(⟨hk_,hk_.2.2⟩:_∧k_ ≠ g745))) hk) (Kd.N_base ho0)) (fun _ h_=>h_.1));have n1_:=Aside0.mk (Kd.R_mono (Kd.R_keep (IsS92.apart (show IsS92 w _ g745 t743 x746001_1 from by repeat (first|(with_reducible first|exact HI745.out|apply IsS92.alloc|apply IsS92.drewN|apply IsS92.drew|apply IsS92.set_1)|exact HI745.out)) (by (with_reducible repeat (first|apply Kd.R_alloc|apply Kd.R_drewN|apply Kd.R_drew));exact HO_6.out) (by decide)) hk (fun _ h=>h.2)) (fun _ h=>h.1));have n2_:=Aside0.mk (Kd.N_lower (Kd.N_mono (ok':=fun k_=>(w.heap.size ≤ k_)∧some k_ ≠ (u4:Value).ownBlock∧some k_ ≠ (v752:Value).ownBlock∧k_ ≠ g745) ho0 (fun k_ hk_=>⟨(Nat.le_trans (below_size (by repeat (first|(with_reducible first|exact HB.out|apply below_alloc|apply pw_below_drewN|apply below_drew1|refine below_set ?_ (IsS92.ge HI745.out))|exact HB.out))) hk_),(Kd.fresh' (Kd.N_lt (by (with_reducible repeat (first|apply Kd.N_alloc|apply Kd.N_drewN|apply Kd.N_drew));exact HO_4.out)) k_ hk_),(Kd.fresh' (Kd.R_lt (by (with_reducible repeat (first|apply Kd.R_alloc|apply Kd.R_drewN|apply Kd.R_drew));exact HO_6.out)) k_ hk_),(IsS92.fresh (by repeat (first|(with_reducible first|exact HI745.out|apply IsS92.alloc|apply IsS92.drewN|apply IsS92.drew|apply IsS92.set_1)|exact HI745.out)) k_ hk_)⟩)) (below_size (by repeat (first|(with_reducible first|exact HB.out|apply below_alloc|apply pw_below_drewN|apply below_drew1|refine below_set ?_ (IsS92.ge HI745.out))|exact HB.out))));have n3_:=Aside0.mk (hb);have n4_:=Aside0.mk (hi);clear HO_4 HO_6 HB HI745;have HO_4:=n0_;have HO_6:=n1_;have HO761:=n2_;have HB:=n3_;have HI745:=n4_;clear n0_ n1_ n2_ n3_ n4_;(try clear hb);(try clear hb2);(try clear hk);(try clear hi);(try clear ho0))|((with_reducible refine gate_dst (N:=8) rfl ?_);refine box_event ?hg (N:=8) ?hd (cs:=#[.bool false,.bool false,.int .i64 0,.int .i64 0,.int .i64 0,.slice none 0 0]) (t:=34) ?hr ?_;(case hd=>rfl);(case hg=>rfl);(case hr=>first|(go_simp;done)|(go_simp;rfl));intro gb763 hg w36 hbox hb;have n0_:=Aside0.mk (Kd.N_below (Kd.N_elderB (by (with_reducible repeat (first|apply Kd.N_alloc|apply Kd.N_drewN|apply Kd.N_drew));exact HO_4.out) gb763 (Nat.le_of_eq hg.symm)) hb);have n1_:=Aside0.mk (Kd.R_below (by (with_reducible repeat (first|apply Kd.R_alloc|apply Kd.R_drewN|apply Kd.R_drew));exact HO_6.out) hb);have n2_:=Aside0.mk (Kd.N_below (Kd.N_elderB (by (with_reducible repeat (first|apply Kd.N_alloc|apply Kd.N_drewN|apply Kd.N_drew));exact HO761.out) gb763 (Nat.le_of_eq hg.symm)) hb);have n3_:=Aside0.mk (IsS92.below (by repeat (first|(with_reducible first|exact HI745.out|apply IsS92.alloc|apply IsS92.drewN|apply IsS92.drew|apply IsS92.set_1)|exact HI745.out)) hb);have n4_:=Aside0.mk (below_step (by repeat (first|(with_reducible first|exact HB.out|apply below_alloc|apply pw_below_drewN|apply below_drew1|refine below_set ?_ (IsS92.ge HI745.out))|exact HB.out)) hb);have n5_:=Aside0.mk (hbox);have n6_:=Aside0.mk ((by rw [hg];exact (below_size (by repeat (first|(with_reducible first|exact HB.out|apply below_alloc|apply pw_below_drewN|apply below_drew1|refine below_set ?_ (IsS92.ge HI745.out))|exact HB.out))):w.heap.size ≤ gb763));have n7_:=Aside0.mk ((by rw [hg];exact (below_size (by repeat (first|(with_reducible first|exact HB.out|apply below_alloc|apply pw_below_drewN|apply below_drew1|refine below_set ?_ (IsS92.ge HI745.out))|exact HB.out))):w.heap.size ≤ gb763));have n8_:=Aside0.mk ((by rw [hg];exact Nat.ne_of_lt (IsS92.lt (show IsS92 w _ g745 t743 t762 from by repeat (first|(with_reducible first|exact HI745.out|apply IsS92.alloc|apply IsS92.drewN|apply IsS92.drew|apply IsS92.set_1)|exact HI745.out))):g745 ≠ gb763));have n9_:=Aside0.mk ((by rw [hg];exact Nat.ne_of_gt (IsS92.lt (show IsS92 w _ g745 t743 t762 from by repeat (first|(with_reducible first|exact HI745.out|apply IsS92.alloc|apply IsS92.drewN|apply IsS92.drew|apply IsS92.set_1)|exact HI745.out))):gb763 ≠ g745));clear HO_4 HO_6 HO761 HI745 HB;have HO_4:=n0_;have HO_6:=n1_;have HO761:=n2_;have HI745:=n3_;have HB:=n4_;have BK763:=n5_;have GW763:=n6_;have GE763:=n7_;have NB745_763:=n8_;have NB763_745:=n9_;clear n0_ n1_ n2_ n3_ n4_ n5_ n6_ n7_ n8_ n9_;clear hb hbox hg;have hnb37:=NB763_745.out;have hnc37:=NB745_763.out;have hcz38_0:w36.cell? ⟨gb763,0,none⟩=some (.bool false):=(blk_cell BK763.out 0).trans rfl;have hcz38_1:w36.cell? ⟨gb763,1,none⟩=some (.bool false):=(blk_cell BK763.out 1).trans rfl;have hcz38_2:w36.cell? ⟨gb763,2,none⟩=some (.int .i64 0):=(blk_cell BK763.out 2).trans rfl;have hcz38_3:w36.cell? ⟨gb763,3,none⟩=some (.int .i64 0):=(blk_cell BK763.out 3).trans rfl;have hcz38_4:w36.cell? ⟨gb763,4,none⟩=some (.int .i64 0):=(blk_cell BK763.out 4).trans rfl;have hcz38_5:w36.cell? ⟨gb763,5,none⟩=some (.slice none 0 0):=(blk_cell BK763.out 5).trans rfl;have hfz38_0:=blk_frozen BK763.out 0;have hfz38_1:=blk_frozen BK763.out 1;have hfz38_2:=blk_frozen BK763.out 2;have hfz38_3:=blk_frozen BK763.out 3;have hfz38_4:=blk_frozen BK763.out 4;have hfz38_5:=blk_frozen BK763.out 5;obtain ⟨Ao39,co39,eo39⟩:=Kd.N_slice HO761.out;subst eo39)|((with_reducible refine gate_callee (f:=67) rfl ?_);refine goesL_ (some 28) rfl rfl Try.func67 (by kernel_rfl) rfl #[.pointer (some ⟨g745,0,none⟩),.int .i64 12] rfl (by (try simp only [map_toArray,map_cons,map_nil]);first|done|rfl|(simp only [length_drop,length_take];rfl)) ?_;(with_reducible refine (spec_l6Rd_pick.calls k1 g745 t743 t762 12 t764 t765 w _ ?side1 ?side2 A13.out).mono ?_);(case side1=>repeat (first|(with_reducible first|exact HI745.out|apply IsS92.alloc|apply IsS92.drewN|apply IsS92.drew|apply IsS92.set_1|refine IsS92.far ?_ NB745_763.out _)|exact HI745.out));(case side2=>repeat (first|(with_reducible first|exact HB.out|apply below_alloc|apply pw_below_drewN|apply below_drew1|refine below_set ?_ (IsS92.ge HI745.out)|refine below_set ?_ GE763.out)|exact HB.out));rintro e w40 ⟨rfl,hi,hb,hk⟩;refine ⟨_,rfl,?_⟩;have n0_:=Aside0.mk (Kd.N_mono (Kd.N_keep (Kd.N_mono (ok:=fun k_=>(((((w.heap.size ≤ k_))∧(some k_ ≠ (v752:Value).ownBlock∧k_ ≠ g745))∧some k_ ≠ (.slice Ao39 t759.length co39:Value).ownBlock)∧k_ ≠ gb763)) (by (with_reducible repeat (first|apply Kd.N_alloc|apply Kd.N_drewN|apply Kd.N_drew));exact (Kd.N_mono (Kd.N_far (p:=⟨gb763,5,none⟩) (Kd.N_far (p:=⟨gb763,4,none⟩) (Kd.N_far (p:=⟨gb763,3,none⟩) (Kd.N_far (p:=⟨gb763,2,none⟩) (Kd.N_far (p:=⟨gb763,1,none⟩) (Kd.N_far (p:=⟨gb763,0,none⟩) (Kd.N_mono HO_4.out (fun k_ hk=>(⟨hk,hk.2⟩:_∧k_ ≠ gb763))) (fun _ hk=>hk.2) (.bool t754)) (fun _ hk=>hk.2) (.bool t755)) (fun _ hk=>hk.2) (.int .i64 t756)) (fun _ hk=>hk.2) (.int .i64 t757)) (fun _ hk=>hk.2) (.int .i64 t758)) (fun _ hk=>hk.2) (.slice Ao39 t759.length co39)) (fun _ h_=>h_.1))) (fun k_ hk_=>(⟨hk_,hk_.1.1.2.2⟩:_∧k_ ≠ g745))) hk (fun _ h=>h.2)) (fun _ h=>h.1));have n1_:=Aside0.mk (Kd.R_mono (Kd.R_keep (IsS92.apart (show IsS92 w _ g745 t743 t762 from by repeat (first|(with_reducible first|exact HI745.out|apply IsS92.alloc|apply IsS92.drewN|apply IsS92.drew|apply IsS92.set_1|refine IsS92.far ?_ NB745_763.out _)|exact HI745.out)) (by (with_reducible repeat (first|apply Kd.R_alloc|apply Kd.R_drewN|apply Kd.R_drew));exact (Kd.R_mono (Kd.R_far (p:=⟨gb763,5,none⟩) (Kd.R_far (p:=⟨gb763,4,none⟩) (Kd.R_far (p:=⟨gb763,3,none⟩) (Kd.R_far (p:=⟨gb763,2,none⟩) (Kd.R_far (p:=⟨gb763,1,none⟩) (Kd.R_far (p:=⟨gb763,0,none⟩) (Kd.R_types HO_6.out BK763.out (by decide)) (fun _ hk=>hk.2) (.bool t754)) (fun _ hk=>hk.2) (.bool t755)) (fun _ hk=>hk.2) (.int .i64 t756)) (fun _ hk=>hk.2) (.int .i64 t757)) (fun _ hk=>hk.2) (.int .i64 t758)) (fun _ hk=>hk.2) (.slice Ao39 t759.length co39)) (fun _ h_=>h_.1))) (by decide)) hk (fun _ h=>h.2)) (fun _ h=>h.1));have n2_:=Aside0.mk (Kd.N_mono (Kd.N_keep (Kd.N_mono (ok:=fun k_=>((((w.heap.size ≤ k_))∧(some k_ ≠ (u4:Value).ownBlock∧(some k_ ≠ (v752:Value).ownBlock∧k_ ≠ g745)))∧k_ ≠ gb763)) (by (with_reducible repeat (first|apply Kd.N_alloc|apply Kd.N_drewN|apply Kd.N_drew));exact (Kd.N_mono (Kd.N_far (p:=⟨gb763,5,none⟩) (Kd.N_far (p:=⟨gb763,4,none⟩) (Kd.N_far (p:=⟨gb763,3,none⟩) (Kd.N_far (p:=⟨gb763,2,none⟩) (Kd.N_far (p:=⟨gb763,1,none⟩) (Kd.N_far (p:=⟨gb763,0,none⟩) (Kd.N_mono HO761.out (fun k_ hk=>(⟨hk,hk.2⟩:_∧k_ ≠ gb763))) (fun _ hk=>hk.2) (.bool t754)) (fun _ hk=>hk.2) (.bool t755)) (fun _ hk=>hk.2) (.int .i64 t756)) (fun _ hk=>hk.2) (.int .i64 t757)) (fun _ hk=>hk.2) (.int .i64 t758)) (fun _ hk=>hk.2) (.slice Ao39 t759.length co39)) (fun _ h_=>h_.1))) (fun k_ hk_=>(⟨hk_,hk_.1.2.2.2⟩:_∧k_ ≠ g745))) hk (fun _ h=>h.2)) (fun _ h=>h.1));have n3_:=Aside0.mk (KeepBut.blk hk (g':=gb763) (o:=.cells #[.bool t754,.bool t755,.int .i64 t756,.int .i64 t757,.int .i64 t758,.slice Ao39 t759.length co39] 34 (0,0)) (by (with_reducible repeat (first|refine blk_drewN ?_ _|refine blk_drew ?_|refine blk_alloc ?_ _));refine blk_put (cs:=#[.bool t754,.bool t755,.int .i64 t756,.int .i64 t757,.int .i64 t758,.slice none 0 0]) ?_ 5 _ rfl;(with_reducible repeat (first|refine blk_drewN ?_ _|refine blk_drew ?_|refine blk_alloc ?_ _));refine blk_put (cs:=#[.bool t754,.bool t755,.int .i64 t756,.int .i64 t757,.int .i64 0,.slice none 0 0]) ?_ 4 _ rfl;(with_reducible repeat (first|refine blk_drewN ?_ _|refine blk_drew ?_|refine blk_alloc ?_ _));refine blk_put (cs:=#[.bool t754,.bool t755,.int .i64 t756,.int .i64 0,.int .i64 0,.slice none 0 0]) ?_ 3 _ rfl;(with_reducible repeat (first|refine blk_drewN ?_ _|refine blk_drew ?_|refine blk_alloc ?_ _));refine blk_put (cs:=#[.bool t754,.bool t755,.int .i64 0,.int .i64 0,.int .i64 0,.slice none 0 0]) ?_ 2 _ rfl;(with_reducible repeat (first|refine blk_drewN ?_ _|refine blk_drew ?_|refine blk_alloc ?_ _));refine blk_put (cs:=#[.bool t754,.bool false,.int .i64 0,.int .i64 0,.int .i64 0,.slice none 0 0]) ?_ 1 _ rfl;(with_reducible repeat (first|refine blk_drewN ?_ _|refine blk_drew ?_|refine blk_alloc ?_ _));refine blk_put (cs:=#[.bool false,.bool false,.int .i64 0,.int .i64 0,.int .i64 0,.slice none 0 0]) ?_ 0 _ rfl;(with_reducible repeat (first|refine blk_drewN ?_ _|refine blk_drew ?_|refine blk_alloc ?_ _));exact BK763.out) NB763_745.out (by simp));have n4_:=Aside0.mk (hb);have n5_:=Aside0.mk (hi);clear HO_4 HO_6 HO761 BK763 HB HI745;have HO_4:=n0_;have HO_6:=n1_;have HO761:=n2_;have BK763:=n3_;have HB:=n4_;have HI745:=n5_;clear n0_ n1_ n2_ n3_ n4_ n5_;(try clear hb);(try clear hb2);(try clear hk);(try clear hi);have hcz41_0:w40.cell? ⟨gb763,0,none⟩=some (.bool t754):=(blk_cell BK763.out 0).trans rfl;have hcz41_1:w40.cell? ⟨gb763,1,none⟩=some (.bool t755):=(blk_cell BK763.out 1).trans rfl;have hcz41_2:w40.cell? ⟨gb763,2,none⟩=some (.int .i64 t756):=(blk_cell BK763.out 2).trans rfl;have hcz41_3:w40.cell? ⟨gb763,3,none⟩=some (.int .i64 t757):=(blk_cell BK763.out 3).trans rfl;have hcz41_4:w40.cell? ⟨gb763,4,none⟩=some (.int .i64 t758):=(blk_cell BK763.out 4).trans rfl;have hcz41_5:w40.cell? ⟨gb763,5,none⟩=some (.slice Ao39 t759.length co39):=(blk_cell BK763.out 5).trans rfl;have hfz41_0:=blk_frozen BK763.out 0;have hfz41_1:=blk_frozen BK763.out 1;have hfz41_2:=blk_frozen BK763.out 2;have hfz41_3:=blk_frozen BK763.out 3;have hfz41_4:=blk_frozen BK763.out 4;have hfz41_5:=blk_frozen BK763.out 5;obtain ⟨Ao42,co42,eo42⟩:=Kd.R_slice HO_6.out;subst eo42;have p766 : 0 ≤ (t756:Int):=of_decide_eq_true (by first|(with_reducible assumption)|assumption);have q766:t756 < (x6_1.length:Int):=of_decide_eq_true (by first|(with_reducible assumption)|assumption);obtain ⟨ad766,e766,hx766_0⟩:=Kd.at_int (Kd.R_reads' HO_6.out).2.2 t756 p766 q766;cases e766;have hn766_0:ad766.block ≠ gb763:=Kd.own_blk (Kd.R_ne HO_6.out BK763.out (by decide));replace hx766_0:=(cell_far (p:=⟨gb763,3,none⟩) (by first|(rw [add_block];exact hn766_0)|(show (Addr.add _ _).block ≠ _;rw [add_block];exact hn766_0)|exact hn766_0) (.int .i64 (wrap64 (Int.tdiv t764 11)))).trans hx766_0;clear hn766_0;replace p766:=eq_true p766;replace q766:=eq_true q766)|((with_reducible refine gate_callee (f:=67) rfl ?_);refine goesL_ (some 38) rfl rfl Try.func67 (by kernel_rfl) rfl #[.pointer (some ⟨g745,0,none⟩),.int .i64 5] rfl (by (try simp only [map_toArray,map_cons,map_nil]);first|done|rfl|(simp only [length_drop,length_take];rfl)) ?_;(with_reducible refine (spec_l6Rd_pick.calls k1 g745 t743 t765 5 t767 t768 w _ ?side1 ?side2 A16.out).mono ?_);(case side1=>repeat (first|(with_reducible first|exact HI745.out|apply IsS92.alloc|apply IsS92.drewN|apply IsS92.drew|apply IsS92.set_1|refine IsS92.far ?_ NB745_763.out _)|exact HI745.out));(case side2=>repeat (first|(with_reducible first|exact HB.out|apply below_alloc|apply pw_below_drewN|apply below_drew1|refine below_set ?_ (IsS92.ge HI745.out)|refine below_set ?_ GE763.out)|exact HB.out));rintro e w43 ⟨rfl,hi,hb,hk⟩;refine ⟨_,rfl,?_⟩;have n0_:=Aside0.mk (Kd.N_mono (Kd.N_keep (Kd.N_mono (ok:=fun k_=>(((((w.heap.size ≤ k_))∧(some k_ ≠ (.slice (some ad766) x6_1.length co42:Value).ownBlock∧k_ ≠ g745))∧some k_ ≠ (.slice Ao39 t759.length co39:Value).ownBlock)∧k_ ≠ gb763)) (by (with_reducible repeat (first|apply Kd.N_alloc|apply Kd.N_drewN|apply Kd.N_drew));exact (Kd.N_mono (Kd.N_far (p:=⟨gb763,4,none⟩) (Kd.N_far (p:=⟨gb763,3,none⟩) (Kd.N_mono HO_4.out (fun k_ hk=>(⟨hk,hk.2⟩:_∧k_ ≠ gb763))) (fun _ hk=>hk.2) (.int .i64 (wrap64 (Int.tdiv t764 11)))) (fun _ hk=>hk.2) (.int .i64 (rd x6_1 t756))) (fun _ h_=>h_.1))) (fun k_ hk_=>(⟨hk_,hk_.1.1.2.2⟩:_∧k_ ≠ g745))) hk (fun _ h=>h.2)) (fun _ h=>h.1));have n1_:=Aside0.mk (Kd.R_mono (Kd.R_keep (IsS92.apart (show IsS92 w _ g745 t743 t765 from by repeat (first|(with_reducible first|exact HI745.out|apply IsS92.alloc|apply IsS92.drewN|apply IsS92.drew|apply IsS92.set_1|refine IsS92.far ?_ NB745_763.out _)|exact HI745.out)) (by (with_reducible repeat (first|apply Kd.R_alloc|apply Kd.R_drewN|apply Kd.R_drew));exact (Kd.R_mono (Kd.R_far (p:=⟨gb763,4,none⟩) (Kd.R_far (p:=⟨gb763,3,none⟩) (Kd.R_types HO_6.out BK763.out (by decide)) (fun _ hk=>hk.2) (.int .i64 (wrap64 (Int.tdiv t764 11)))) (fun _ hk=>hk.2) (.int .i64 (rd x6_1 t756))) (fun _ h_=>h_.1))) (by decide)) hk (fun _ h=>h.2)) (fun _ h=>h.1));have n2_:=Aside0.mk (Kd.N_mono (Kd.N_keep (Kd.N_mono (ok:=fun k_=>((((w.heap.size ≤ k_))∧(some k_ ≠ (u4:Value).ownBlock∧(some k_ ≠ (.slice (some ad766) x6_1.length co42:Value).ownBlock∧k_ ≠ g745)))∧k_ ≠ gb763)) (by (with_reducible repeat (first|apply Kd.N_alloc|apply Kd.N_drewN|apply Kd.N_drew));exact (Kd.N_mono (Kd.N_far (p:=⟨gb763,4,none⟩) (Kd.N_far (p:=⟨gb763,3,none⟩) (Kd.N_mono HO761.out (fun k_ hk=>(⟨hk,hk.2⟩:_∧k_ ≠ gb763))) (fun _ hk=>hk.2) (.int .i64 (wrap64 (Int.tdiv t764 11)))) (fun _ hk=>hk.2) (.int .i64 (rd x6_1 t756))) (fun _ h_=>h_.1))) (fun k_ hk_=>(⟨hk_,hk_.1.2.2.2⟩:_∧k_ ≠ g745))) hk (fun _ h=>h.2)) (fun _ h=>h.1));have n3_:=Aside0.mk (KeepBut.blk hk (g':=gb763) (o:=.cells #[.bool t754,.bool t755,.int .i64 t756,.int .i64 (wrap64 (Int.tdiv t764 11)),.int .i64 (rd x6_1 t756),.slice Ao39 t759.length co39] 34 (0,0)) (by (with_reducible repeat (first|refine blk_drewN ?_ _|refine blk_drew ?_|refine blk_alloc ?_ _));refine blk_put (cs:=#[.bool t754,.bool t755,.int .i64 t756,.int .i64 (wrap64 (Int.tdiv t764 11)),.int .i64 t758,.slice Ao39 t759.length co39]) ?_ 4 _ rfl;(with_reducible repeat (first|refine blk_drewN ?_ _|refine blk_drew ?_|refine blk_alloc ?_ _));refine blk_put (cs:=#[.bool t754,.bool t755,.int .i64 t756,.int .i64 t757,.int .i64 t758,.slice Ao39 t759.length co39]) ?_ 3 _ rfl;(with_reducible repeat (first|refine blk_drewN ?_ _|refine blk_drew ?_|refine blk_alloc ?_ _));exact BK763.out) NB763_745.out (by simp));have n4_:=Aside0.mk (hb);have n5_:=Aside0.mk (hi);clear HO_4 HO_6 HO761 BK763 HB HI745;have HO_4:=n0_;have HO_6:=n1_;have HO761:=n2_;have BK763:=n3_;have HB:=n4_;have HI745:=n5_;clear n0_ n1_ n2_ n3_ n4_ n5_;(try clear hb);(try clear hb2);(try clear hk);(try clear hi);have hcz44_0:w43.cell? ⟨gb763,0,none⟩=some (.bool t754):=(blk_cell BK763.out 0).trans rfl;have hcz44_1:w43.cell? ⟨gb763,1,none⟩=some (.bool t755):=(blk_cell BK763.out 1).trans rfl;have hcz44_2:w43.cell? ⟨gb763,2,none⟩=some (.int .i64 t756):=(blk_cell BK763.out 2).trans rfl;have hcz44_3:w43.cell? ⟨gb763,3,none⟩=some (.int .i64 (wrap64 (Int.tdiv t764 11))):=(blk_cell BK763.out 3).trans rfl;have hcz44_4:w43.cell? ⟨gb763,4,none⟩=some (.int .i64 (rd x6_1 t756)):=(blk_cell BK763.out 4).trans rfl;have hcz44_5:w43.cell? ⟨gb763,5,none⟩=some (.slice Ao39 t759.length co39):=(blk_cell BK763.out 5).trans rfl;have hfz44_0:=blk_frozen BK763.out 0;have hfz44_1:=blk_frozen BK763.out 1;have hfz44_2:=blk_frozen BK763.out 2;have hfz44_3:=blk_frozen BK763.out 3;have hfz44_4:=blk_frozen BK763.out 4;have hfz44_5:=blk_frozen BK763.out 5)|((with_reducible refine gate_builtin (b:=.append) (xs:=#[.tmp 50,.tmp 52]) rfl ?_);at_builtin;refine Kd.N_append k34 (w0:=w) w.heap.size rfl (.tmp 50) (.tmp 52) 51 34 (.agg #[(.bool false),(.bool false),(.int .i64 0),(.int .i64 0),(.int .i64 0),(.slice none 0 0)]) 56 rfl Try.underlying51 info34 rfl (by decide) (by omega) u4 x4_1 (⟨t754,t755,t756,wrap64 (Int.tdiv t764 11),rd x6_1 t756,t759⟩:S34) [.bool t754,.bool t755,.int .i64 t756,.int .i64 (wrap64 (Int.tdiv t764 11)),.int .i64 (rd x6_1 t756),.slice Ao39 t759.length co39] (fun k_=>(w.heap.size ≤ k_)∧some k_ ≠ (.slice (some ad766) x6_1.length co42:Value).ownBlock∧k_ ≠ gb763∧k_ ≠ g745) (fun k_=>((fun k_=>(w.heap.size ≤ k_)∧some k_ ≠ (.slice (some ad766) x6_1.length co42:Value).ownBlock∧k_ ≠ gb763∧k_ ≠ g745)) k_∧some k_ ≠ (u4:Value).ownBlock) rfl rfl ?aP (fun _ hk=>hk) ?aF ?aO ?aB ?aS ?aL ?_;(case aP=>exact (k34_mkF _ _ (⟨t754,t755,t756,wrap64 (Int.tdiv t764 11),rd x6_1 t756,t759⟩:S34) (Kd.N_reads' (Kd.N_mono (ok':=(fun k_=>((fun k_=>(w.heap.size ≤ k_)∧some k_ ≠ (.slice (some ad766) x6_1.length co42:Value).ownBlock∧k_ ≠ gb763∧k_ ≠ g745)) k_∧some k_ ≠ (u4:Value).ownBlock)) (HO761.out) (fun k_ hk=>⟨⟨hk.1.1,⟨hk.1.2.2.1,⟨hk.2,hk.1.2.2.2⟩⟩⟩,hk.1.2.1⟩))).2.1 (Kd.N_F (Kd.N_mono (ok':=(fun k_=>((fun k_=>(w.heap.size ≤ k_)∧some k_ ≠ (.slice (some ad766) x6_1.length co42:Value).ownBlock∧k_ ≠ gb763∧k_ ≠ g745)) k_∧some k_ ≠ (u4:Value).ownBlock)) (HO761.out) (fun k_ hk=>⟨⟨hk.1.1,⟨hk.1.2.2.1,⟨hk.2,hk.1.2.2.2⟩⟩⟩,hk.1.2.1⟩)))));(case aB=>exact (by repeat (first|(with_reducible first|exact HB.out|apply below_alloc|apply pw_below_drewN|apply below_drew1|refine below_set ?_ (IsS92.ge HI745.out)|refine below_set ?_ GE763.out)|exact HB.out)));(case aF=>exact (fun k_ hk=>⟨(Nat.le_trans (below_size (by repeat (first|(with_reducible first|exact HB.out|apply below_alloc|apply pw_below_drewN|apply below_drew1|refine below_set ?_ (IsS92.ge HI745.out)|refine below_set ?_ GE763.out)|exact HB.out))) hk),Kd.fresh' (Kd.R_lt (by (with_reducible repeat (first|apply Kd.R_alloc|apply Kd.R_drewN|apply Kd.R_drew));exact HO_6.out)) k_ hk,Kd.freshB (g:=gb763) (o:=.cells #[.bool t754,.bool t755,.int .i64 t756,.int .i64 (wrap64 (Int.tdiv t764 11)),.int .i64 (rd x6_1 t756),.slice Ao39 t759.length co39] 34 (0,0)) (by (with_reducible repeat (first|refine blk_drewN ?_ _|refine blk_drew ?_|refine blk_alloc ?_ _));exact BK763.out) k_ hk,IsS92.fresh (by repeat (first|(with_reducible first|exact HI745.out|apply IsS92.alloc|apply IsS92.drewN|apply IsS92.drew|apply IsS92.set_1|refine IsS92.far ?_ NB745_763.out _)|exact HI745.out)) k_ hk⟩));(case aO=>exact (by (with_reducible repeat (first|apply Kd.N_alloc|apply Kd.N_drewN|apply Kd.N_drew));exact Kd.N_mono HO_4.out (fun _ hk=>⟨hk.1.1.1,⟨hk.1.1.2.1,⟨hk.2,hk.1.1.2.2⟩⟩⟩)));(case aS=>exact (below_size (by repeat (first|(with_reducible first|exact HB.out|apply below_alloc|apply pw_below_drewN|apply below_drew1|refine below_set ?_ (IsS92.ge HI745.out)|refine below_set ?_ GE763.out)|exact HB.out))));(case aL=>have:=LMc34.out;omega);intro v774 w45 ho hb hg hat;rw [← Ny773.out] at ho;have n0_:=Aside0.mk (Kd.R_over' (by (with_reducible repeat (first|apply Kd.R_alloc|apply Kd.R_drewN|apply Kd.R_drew));exact HO_6.out) (Kd.N_typed (by (with_reducible repeat (first|apply Kd.N_alloc|apply Kd.N_drewN|apply Kd.N_drew));exact HO_4.out)) (by decide) hg);have n1_:=Aside0.mk (IsS92.grown (by repeat (first|(with_reducible first|exact HI745.out|apply IsS92.alloc|apply IsS92.drewN|apply IsS92.drew|apply IsS92.set_1|refine IsS92.far ?_ NB745_763.out _)|exact HI745.out)) hg (IsS92.own_neN HI745.out HO_4.out (by decide)));have n2_:=Aside0.mk (blk_grown (g:=gb763) (o:=.cells #[.bool t754,.bool t755,.int .i64 t756,.int .i64 (wrap64 (Int.tdiv t764 11)),.int .i64 (rd x6_1 t756),.slice Ao39 t759.length co39] 34 (0,0)) (by (with_reducible repeat (first|refine blk_drewN ?_ _|refine blk_drew ?_|refine blk_alloc ?_ _));exact BK763.out) hg (Kd.N_away HO_4.out (fun _ hk=>hk.2)));have n3_:=Aside0.mk (hb);have n4_:=Aside0.mk (ho);clear HO_6 HI745 BK763 HB HO_4 HO761;have HO_6:=n0_;have HI745:=n1_;have BK763:=n2_;have HB:=n3_;have HO775:=n4_;clear n0_ n1_ n2_ n3_ n4_;clear ho hb hg hat))
         go_roundg k1
         case measure=>have:=HK1.out;omega
         case rel=>exact ⟨(y773),(x6_1),(wrap64 (x7_1+1)),(t768),(by first|rfl|(simp;done)|(simp [*];done)),H',⟨by have:=HK1.out;omega⟩,⟨by (with_reducible repeat (first|apply Kd.N_alloc|apply Kd.N_drewN|apply Kd.N_drew));exact Kd.N_mono HO775.out (fun _ hk=>⟨hk.1,⟨hk.2.1,hk.2.2.2⟩⟩)⟩,⟨by (with_reducible repeat (first|apply Kd.R_alloc|apply Kd.R_drewN|apply Kd.R_drew));exact HO_6.out⟩,⟨by repeat (first|(with_reducible first|exact HI745.out|apply IsS92.alloc|apply IsS92.drewN|apply IsS92.drew|apply IsS92.set_1|refine IsS92.far ?_ NB745_763.out _)|exact HI745.out)⟩,⟨by repeat (first|(with_reducible first|exact HB.out|apply below_alloc|apply pw_below_drewN|apply below_drew1|refine below_set ?_ (IsS92.ge HI745.out)|refine below_set ?_ GE763.out)|exact HB.out)⟩⟩
        ·rw [if_neg c34] at H
         exact absurd H (by simp)
      ·rw [if_neg c15] at H
       exact absurd H (by simp)
     ·rw [if_neg c14] at H
      exact absurd H (by simp)
    ·rw [if_neg c12] at H
     have c12b0:decide (t756 < 3)=false:=decide_eq_false c12
     clear c12
     by_cases c46:x4_1.length < 2513169434916
     ·rw [if_pos c46] at H
      have LMc46:=Aside0.mk c46
      clear c46
      obtain ⟨y776,hy776⟩:∃ y_:List (S34),y_=(x4_1 ++ [(⟨t754,t755,t756,t757,t758,t759⟩:S34)]):=⟨_,rfl⟩
      replace H:(spec_DrawProducersRun.l0 k1 y776 t749 x6_1 (wrap64 (x7_1+1)) t743 t762)=some r:=by first|(rw [hy776];with_reducible exact H)|(have H2_:=(Option.bind_some _ _).symm.trans H;rw [hy776];with_reducible exact H2_)|(have H2_:=(Option.bind_some _ _).symm.trans H;with_reducible exact H2_)|with_reducible exact H|(rw [hy776];exact H)|exact H
      have Ny776:=Aside0.mk hy776
      clear hy776
      have H':=Aside0.mk H
      clear H
      go_wp2_with (first|((with_reducible refine gate_callee (f:=68) rfl ?_);refine goesL_ (some 23) rfl rfl Try.func68 (by kernel_rfl) rfl #[.pointer (some ⟨g745,0,none⟩),.int .i64 (wrap64 (2 * x7_1))] rfl (by (try simp only [map_toArray,map_cons,map_nil]);first|done|rfl|(simp only [length_drop,length_take];rfl)) ?_;(with_reducible refine (spec_l91Batch.calls k1 g745 t743 x746001_1 (wrap64 (2 * x7_1)) t754 t755 t756 t757 t758 t759 t762 w _ ?side1 ?side2 A11.out).mono ?_);(case side1=>repeat (first|(with_reducible first|exact HI745.out|apply IsS92.alloc|apply IsS92.drewN|apply IsS92.drew|apply IsS92.set_1)|exact HI745.out));(case side2=>repeat (first|(with_reducible first|exact HB.out|apply below_alloc|apply pw_below_drewN|apply below_drew1|refine below_set ?_ (IsS92.ge HI745.out))|exact HB.out));rintro e w47 ⟨v760,rfl,ho0,hi,hb,hk⟩;refine ⟨_,rfl,?_⟩;have n0_:=Aside0.mk (Kd.N_mono (Kd.N_told (Kd.N_oldK (Kd.N_mono (ok:=fun k_=>(((w.heap.size ≤ k_))∧(some k_ ≠ (v752:Value).ownBlock∧k_ ≠ g745))) (by (with_reducible repeat (first|apply Kd.N_alloc|apply Kd.N_drewN|apply Kd.N_drew));exact HO_4.out) (fun k_ hk_=>(⟨hk_,hk_.2.2⟩:_∧k_ ≠ g745))) hk) (Kd.N_base ho0)) (fun _ h_=>h_.1));have n1_:=Aside0.mk (Kd.R_mono (Kd.R_keep (IsS92.apart (show IsS92 w _ g745 t743 x746001_1 from by repeat (first|(with_reducible first|exact HI745.out|apply IsS92.alloc|apply IsS92.drewN|apply IsS92.drew|apply IsS92.set_1)|exact HI745.out)) (by (with_reducible repeat (first|apply Kd.R_alloc|apply Kd.R_drewN|apply Kd.R_drew));exact HO_6.out) (by decide)) hk (fun _ h=>h.2)) (fun _ h=>h.1));have n2_:=Aside0.mk (Kd.N_lower (Kd.N_mono (ok':=fun k_=>(w.heap.size ≤ k_)∧some k_ ≠ (u4:Value).ownBlock∧some k_ ≠ (v752:Value).ownBlock∧k_ ≠ g745) ho0 (fun k_ hk_=>⟨(Nat.le_trans (below_size (by repeat (first|(with_reducible first|exact HB.out|apply below_alloc|apply pw_below_drewN|apply below_drew1|refine below_set ?_ (IsS92.ge HI745.out))|exact HB.out))) hk_),(Kd.fresh' (Kd.N_lt (by (with_reducible repeat (first|apply Kd.N_alloc|apply Kd.N_drewN|apply Kd.N_drew));exact HO_4.out)) k_ hk_),(Kd.fresh' (Kd.R_lt (by (with_reducible repeat (first|apply Kd.R_alloc|apply Kd.R_drewN|apply Kd.R_drew));exact HO_6.out)) k_ hk_),(IsS92.fresh (by repeat (first|(with_reducible first|exact HI745.out|apply IsS92.alloc|apply IsS92.drewN|apply IsS92.drew|apply IsS92.set_1)|exact HI745.out)) k_ hk_)⟩)) (below_size (by repeat (first|(with_reducible first|exact HB.out|apply below_alloc|apply pw_below_drewN|apply below_drew1|refine below_set ?_ (IsS92.ge HI745.out))|exact HB.out))));have n3_:=Aside0.mk (hb);have n4_:=Aside0.mk (hi);clear HO_4 HO_6 HB HI745;have HO_4:=n0_;have HO_6:=n1_;have HO761:=n2_;have HB:=n3_;have HI745:=n4_;clear n0_ n1_ n2_ n3_ n4_;(try clear hb);(try clear hb2);(try clear hk);(try clear hi);(try clear ho0))|((with_reducible refine gate_dst (N:=8) rfl ?_);refine box_event ?hg (N:=8) ?hd (cs:=#[.bool false,.bool false,.int .i64 0,.int .i64 0,.int .i64 0,.slice none 0 0]) (t:=34) ?hr ?_;(case hd=>rfl);(case hg=>rfl);(case hr=>first|(go_simp;done)|(go_simp;rfl));intro gb763 hg w48 hbox hb;have n0_:=Aside0.mk (Kd.N_below (Kd.N_elderB (by (with_reducible repeat (first|apply Kd.N_alloc|apply Kd.N_drewN|apply Kd.N_drew));exact HO_4.out) gb763 (Nat.le_of_eq hg.symm)) hb);have n1_:=Aside0.mk (Kd.R_below (by (with_reducible repeat (first|apply Kd.R_alloc|apply Kd.R_drewN|apply Kd.R_drew));exact HO_6.out) hb);have n2_:=Aside0.mk (Kd.N_below (Kd.N_elderB (by (with_reducible repeat (first|apply Kd.N_alloc|apply Kd.N_drewN|apply Kd.N_drew));exact HO761.out) gb763 (Nat.le_of_eq hg.symm)) hb);have n3_:=Aside0.mk (IsS92.below (by repeat (first|(with_reducible first|exact HI745.out|apply IsS92.alloc|apply IsS92.drewN|apply IsS92.drew|apply IsS92.set_1)|exact HI745.out)) hb);have n4_:=Aside0.mk (below_step (by repeat (first|(with_reducible first|exact HB.out|apply below_alloc|apply pw_below_drewN|apply below_drew1|refine below_set ?_ (IsS92.ge HI745.out))|exact HB.out)) hb);have n5_:=Aside0.mk (hbox);have n6_:=Aside0.mk ((by rw [hg];exact (below_size (by repeat (first|(with_reducible first|exact HB.out|apply below_alloc|apply pw_below_drewN|apply below_drew1|refine below_set ?_ (IsS92.ge HI745.out))|exact HB.out))):w.heap.size ≤ gb763));have n7_:=Aside0.mk ((by rw [hg];exact (below_size (by repeat (first|(with_reducible first|exact HB.out|apply below_alloc|apply pw_below_drewN|apply below_drew1|refine below_set ?_ (IsS92.ge HI745.out))|exact HB.out))):w.heap.size ≤ gb763));have n8_:=Aside0.mk ((by rw [hg];exact Nat.ne_of_lt (IsS92.lt (show IsS92 w _ g745 t743 t762 from by repeat (first|(with_reducible first|exact HI745.out|apply IsS92.alloc|apply IsS92.drewN|apply IsS92.drew|apply IsS92.set_1)|exact HI745.out))):g745 ≠ gb763));have n9_:=Aside0.mk ((by rw [hg];exact Nat.ne_of_gt (IsS92.lt (show IsS92 w _ g745 t743 t762 from by repeat (first|(with_reducible first|exact HI745.out|apply IsS92.alloc|apply IsS92.drewN|apply IsS92.drew|apply IsS92.set_1)|exact HI745.out))):gb763 ≠ g745));clear HO_4 HO_6 HO761 HI745 HB;have HO_4:=n0_;have HO_6:=n1_;have HO761:=n2_;have HI745:=n3_;have HB:=n4_;have BK763:=n5_;have GW763:=n6_;have GE763:=n7_;have NB745_763:=n8_;have NB763_745:=n9_;clear n0_ n1_ n2_ n3_ n4_ n5_ n6_ n7_ n8_ n9_;clear hb hbox hg;have hnb49:=NB763_745.out;have hnc49:=NB745_763.out;have hcz50_0:w48.cell? ⟨gb763,0,none⟩=some (.bool false):=(blk_cell BK763.out 0).trans rfl;have hcz50_1:w48.cell? ⟨gb763,1,none⟩=some (.bool false):=(blk_cell BK763.out 1).trans rfl;have hcz50_2:w48.cell? ⟨gb763,2,none⟩=some (.int .i64 0):=(blk_cell BK763.out 2).trans rfl;have hcz50_3:w48.cell? ⟨gb763,3,none⟩=some (.int .i64 0):=(blk_cell BK763.out 3).trans rfl;have hcz50_4:w48.cell? ⟨gb763,4,none⟩=some (.int .i64 0):=(blk_cell BK763.out 4).trans rfl;have hcz50_5:w48.cell? ⟨gb763,5,none⟩=some (.slice none 0 0):=(blk_cell BK763.out 5).trans rfl;have hfz50_0:=blk_frozen BK763.out 0;have hfz50_1:=blk_frozen BK763.out 1;have hfz50_2:=blk_frozen BK763.out 2;have hfz50_3:=blk_frozen BK763.out 3;have hfz50_4:=blk_frozen BK763.out 4;have hfz50_5:=blk_frozen BK763.out 5;obtain ⟨Ao51,co51,eo51⟩:=Kd.N_slice HO761.out;subst eo51)|((with_reducible refine gate_store (t:=34) (p:=8) rfl ?_);refine store_event (t:=34) (p:=8) (v:=?vo_w52) (w1:=((((((w48.setCell ⟨gb763,0,none⟩ (.bool t754)).setCell ⟨gb763,1,none⟩ (.bool t755)).setCell ⟨gb763,2,none⟩ (.int .i64 t756)).setCell ⟨gb763,3,none⟩ (.int .i64 t757)).setCell ⟨gb763,4,none⟩ (.int .i64 t758)).setCell ⟨gb763,5,none⟩ (.slice Ao51 t759.length co51))) ?hg ?ho ?hn ?hr ?_;(case ho=>rfl);(case hg=>rfl);(case hn=>rfl);(case hr=>first|(go_simp;done)|(go_simp;rfl));intro w52 hw;have n0_:Aside0 (Kd.N k34 34 w52 w.heap.size (fun k_=>(w.heap.size ≤ k_)∧some k_ ≠ (v752:Value).ownBlock∧some k_ ≠ (.slice Ao51 t759.length co51:Value).ownBlock∧k_ ≠ g745∧k_ ≠ gb763) u4 x4_1):=⟨(by rw [hw];exact (by (with_reducible repeat (first|apply Kd.N_alloc|apply Kd.N_drewN|apply Kd.N_drew));exact Kd.N_mono (Kd.N_far (p:=⟨gb763,5,none⟩) (Kd.N_far (p:=⟨gb763,4,none⟩) (Kd.N_far (p:=⟨gb763,3,none⟩) (Kd.N_far (p:=⟨gb763,2,none⟩) (Kd.N_far (p:=⟨gb763,1,none⟩) (Kd.N_far (p:=⟨gb763,0,none⟩) (Kd.N_mono HO_4.out (fun k_ hk=>(⟨hk,hk.2⟩:_∧k_ ≠ gb763))) (fun _ hk=>hk.2) (.bool t754)) (fun _ hk=>hk.2) (.bool t755)) (fun _ hk=>hk.2) (.int .i64 t756)) (fun _ hk=>hk.2) (.int .i64 t757)) (fun _ hk=>hk.2) (.int .i64 t758)) (fun _ hk=>hk.2) (.slice Ao51 t759.length co51)) (fun _ hk=>⟨hk.1.1.1.1,⟨hk.1.1.1.2.1,⟨hk.1.1.2,⟨hk.1.1.1.2.2,hk.1.2⟩⟩⟩⟩)))⟩;have n1_:Aside0 (Kd.R (Kd.int .i64) 3 w52 w.heap.size (fun k_=>(w.heap.size ≤ k_)) v752 x6_1):=⟨(by rw [hw];exact (by (with_reducible repeat (first|apply Kd.R_alloc|apply Kd.R_drewN|apply Kd.R_drew));exact Kd.R_mono (Kd.R_far (p:=⟨gb763,5,none⟩) (Kd.R_far (p:=⟨gb763,4,none⟩) (Kd.R_far (p:=⟨gb763,3,none⟩) (Kd.R_far (p:=⟨gb763,2,none⟩) (Kd.R_far (p:=⟨gb763,1,none⟩) (Kd.R_far (p:=⟨gb763,0,none⟩) (Kd.R_types HO_6.out BK763.out (by decide)) (fun _ hk=>hk.2) (.bool t754)) (fun _ hk=>hk.2) (.bool t755)) (fun _ hk=>hk.2) (.int .i64 t756)) (fun _ hk=>hk.2) (.int .i64 t757)) (fun _ hk=>hk.2) (.int .i64 t758)) (fun _ hk=>hk.2) (.slice Ao51 t759.length co51)) (fun _ hk=>hk.1)))⟩;have n2_:Aside0 (Kd.N k79 79 w52 w.heap.size (fun k_=>(w.heap.size ≤ k_)∧some k_ ≠ (u4:Value).ownBlock∧some k_ ≠ (v752:Value).ownBlock∧k_ ≠ g745∧k_ ≠ gb763) (.slice Ao51 t759.length co51) t759):=⟨(by rw [hw];exact (by (with_reducible repeat (first|apply Kd.N_alloc|apply Kd.N_drewN|apply Kd.N_drew));exact Kd.N_mono (Kd.N_far (p:=⟨gb763,5,none⟩) (Kd.N_far (p:=⟨gb763,4,none⟩) (Kd.N_far (p:=⟨gb763,3,none⟩) (Kd.N_far (p:=⟨gb763,2,none⟩) (Kd.N_far (p:=⟨gb763,1,none⟩) (Kd.N_far (p:=⟨gb763,0,none⟩) (Kd.N_mono HO761.out (fun k_ hk=>(⟨hk,hk.2⟩:_∧k_ ≠ gb763))) (fun _ hk=>hk.2) (.bool t754)) (fun _ hk=>hk.2) (.bool t755)) (fun _ hk=>hk.2) (.int .i64 t756)) (fun _ hk=>hk.2) (.int .i64 t757)) (fun _ hk=>hk.2) (.int .i64 t758)) (fun _ hk=>hk.2) (.slice Ao51 t759.length co51)) (fun _ hk=>⟨hk.1.1.1,⟨hk.1.1.2.1,⟨hk.1.1.2.2.1,⟨hk.1.1.2.2.2,hk.1.2⟩⟩⟩⟩)))⟩;have n3_:Aside0 (w52.heap[gb763]? = some (.cells #[.bool t754,.bool t755,.int .i64 t756,.int .i64 t757,.int .i64 t758,.slice Ao51 t759.length co51] 34 (0,0))):=⟨(by rw [hw];exact (by (with_reducible repeat (first|refine blk_drewN ?_ _|refine blk_drew ?_|refine blk_alloc ?_ _));refine blk_put (cs:=#[.bool t754,.bool t755,.int .i64 t756,.int .i64 t757,.int .i64 t758,.slice none 0 0]) ?_ 5 _ rfl;(with_reducible repeat (first|refine blk_drewN ?_ _|refine blk_drew ?_|refine blk_alloc ?_ _));refine blk_put (cs:=#[.bool t754,.bool t755,.int .i64 t756,.int .i64 t757,.int .i64 0,.slice none 0 0]) ?_ 4 _ rfl;(with_reducible repeat (first|refine blk_drewN ?_ _|refine blk_drew ?_|refine blk_alloc ?_ _));refine blk_put (cs:=#[.bool t754,.bool t755,.int .i64 t756,.int .i64 0,.int .i64 0,.slice none 0 0]) ?_ 3 _ rfl;(with_reducible repeat (first|refine blk_drewN ?_ _|refine blk_drew ?_|refine blk_alloc ?_ _));refine blk_put (cs:=#[.bool t754,.bool t755,.int .i64 0,.int .i64 0,.int .i64 0,.slice none 0 0]) ?_ 2 _ rfl;(with_reducible repeat (first|refine blk_drewN ?_ _|refine blk_drew ?_|refine blk_alloc ?_ _));refine blk_put (cs:=#[.bool t754,.bool false,.int .i64 0,.int .i64 0,.int .i64 0,.slice none 0 0]) ?_ 1 _ rfl;(with_reducible repeat (first|refine blk_drewN ?_ _|refine blk_drew ?_|refine blk_alloc ?_ _));refine blk_put (cs:=#[.bool false,.bool false,.int .i64 0,.int .i64 0,.int .i64 0,.slice none 0 0]) ?_ 0 _ rfl;(with_reducible repeat (first|refine blk_drewN ?_ _|refine blk_drew ?_|refine blk_alloc ?_ _));exact BK763.out))⟩;have n4_:Aside0 (IsS92 w w52 g745 t743 t762):=⟨(by rw [hw];exact (by repeat (first|(with_reducible first|exact HI745.out|apply IsS92.alloc|apply IsS92.drewN|apply IsS92.drew|apply IsS92.set_1|refine IsS92.far ?_ NB745_763.out _)|exact HI745.out)))⟩;have n5_:Aside0 (Below w.heap.size w w52):=⟨(by rw [hw];exact (by repeat (first|(with_reducible first|exact HB.out|apply below_alloc|apply pw_below_drewN|apply below_drew1|refine below_set ?_ (IsS92.ge HI745.out)|refine below_set ?_ GE763.out)|exact HB.out)))⟩;clear hw HO_4 HO_6 HO761 BK763 HI745 HB;have HO_4:=n0_;have HO_6:=n1_;have HO761:=n2_;have BK763:=n3_;have HI745:=n4_;have HB:=n5_;clear n0_ n1_ n2_ n3_ n4_ n5_;have hcz53_0:w52.cell? ⟨gb763,0,none⟩=some (.bool t754):=(blk_cell BK763.out 0).trans rfl;have hcz53_1:w52.cell? ⟨gb763,1,none⟩=some (.bool t755):=(blk_cell BK763.out 1).trans rfl;have hcz53_2:w52.cell? ⟨gb763,2,none⟩=some (.int .i64 t756):=(blk_cell BK763.out 2).trans rfl;have hcz53_3:w52.cell? ⟨gb763,3,none⟩=some (.int .i64 t757):=(blk_cell BK763.out 3).trans rfl;have hcz53_4:w52.cell? ⟨gb763,4,none⟩=some (.int .i64 t758):=(blk_cell BK763.out 4).trans rfl;have hcz53_5:w52.cell? ⟨gb763,5,none⟩=some (.slice Ao51 t759.length co51):=(blk_cell BK763.out 5).trans rfl;have hfz53_0:=blk_frozen BK763.out 0;have hfz53_1:=blk_frozen BK763.out 1;have hfz53_2:=blk_frozen BK763.out 2;have hfz53_3:=blk_frozen BK763.out 3;have hfz53_4:=blk_frozen BK763.out 4;have hfz53_5:=blk_frozen BK763.out 5)|((with_reducible refine gate_builtin (b:=.append) (xs:=#[.tmp 50,.tmp 52]) rfl ?_);at_builtin;refine Kd.N_append k34 (w0:=w) w.heap.size rfl (.tmp 50) (.tmp 52) 51 34 (.agg #[(.bool false),(.bool false),(.int .i64 0),(.int .i64 0),(.int .i64 0),(.slice none 0 0)]) 56 rfl Try.underlying51 info34 rfl (by decide) (by omega) u4 x4_1 (⟨t754,t755,t756,t757,t758,t759⟩:S34) [.bool t754,.bool t755,.int .i64 t756,.int .i64 t757,.int .i64 t758,.slice Ao51 t759.length co51] (fun k_=>(w.heap.size ≤ k_)∧some k_ ≠ (v752:Value).ownBlock∧k_ ≠ gb763∧k_ ≠ g745) (fun k_=>((fun k_=>(w.heap.size ≤ k_)∧some k_ ≠ (v752:Value).ownBlock∧k_ ≠ gb763∧k_ ≠ g745)) k_∧some k_ ≠ (u4:Value).ownBlock) rfl rfl ?aP (fun _ hk=>hk) ?aF ?aO ?aB ?aS ?aL ?_;(case aP=>exact (k34_mkF _ _ (⟨t754,t755,t756,t757,t758,t759⟩:S34) (Kd.N_reads' (Kd.N_mono (ok':=(fun k_=>((fun k_=>(w.heap.size ≤ k_)∧some k_ ≠ (v752:Value).ownBlock∧k_ ≠ gb763∧k_ ≠ g745)) k_∧some k_ ≠ (u4:Value).ownBlock)) (HO761.out) (fun k_ hk=>⟨⟨hk.1,⟨hk.2.2.1,⟨hk.2.2.2.2,hk.2.2.2.1⟩⟩⟩,hk.2.1⟩))).2.1 (Kd.N_F (Kd.N_mono (ok':=(fun k_=>((fun k_=>(w.heap.size ≤ k_)∧some k_ ≠ (v752:Value).ownBlock∧k_ ≠ gb763∧k_ ≠ g745)) k_∧some k_ ≠ (u4:Value).ownBlock)) (HO761.out) (fun k_ hk=>⟨⟨hk.1,⟨hk.2.2.1,⟨hk.2.2.2.2,hk.2.2.2.1⟩⟩⟩,hk.2.1⟩)))));(case aB=>exact (by repeat (first|(with_reducible first|exact HB.out|apply below_alloc|apply pw_below_drewN|apply below_drew1|refine below_set ?_ (IsS92.ge HI745.out)|refine below_set ?_ GE763.out)|exact HB.out)));(case aF=>exact (fun k_ hk=>⟨(Nat.le_trans (below_size (by repeat (first|(with_reducible first|exact HB.out|apply below_alloc|apply pw_below_drewN|apply below_drew1|refine below_set ?_ (IsS92.ge HI745.out)|refine below_set ?_ GE763.out)|exact HB.out))) hk),Kd.fresh' (Kd.R_lt (by (with_reducible repeat (first|apply Kd.R_alloc|apply Kd.R_drewN|apply Kd.R_drew));exact HO_6.out)) k_ hk,Kd.freshB (g:=gb763) (o:=.cells #[.bool t754,.bool t755,.int .i64 t756,.int .i64 t757,.int .i64 t758,.slice Ao51 t759.length co51] 34 (0,0)) (by (with_reducible repeat (first|refine blk_drewN ?_ _|refine blk_drew ?_|refine blk_alloc ?_ _));exact BK763.out) k_ hk,IsS92.fresh (by repeat (first|(with_reducible first|exact HI745.out|apply IsS92.alloc|apply IsS92.drewN|apply IsS92.drew|apply IsS92.set_1|refine IsS92.far ?_ NB745_763.out _)|exact HI745.out)) k_ hk⟩));(case aO=>exact (by (with_reducible repeat (first|apply Kd.N_alloc|apply Kd.N_drewN|apply Kd.N_drew));exact Kd.N_mono HO_4.out (fun _ hk=>⟨hk.1,⟨hk.2.1,⟨hk.2.2.2.2,hk.2.2.2.1⟩⟩⟩)));(case aS=>exact (below_size (by repeat (first|(with_reducible first|exact HB.out|apply below_alloc|apply pw_below_drewN|apply below_drew1|refine below_set ?_ (IsS92.ge HI745.out)|refine below_set ?_ GE763.out)|exact HB.out))));(case aL=>have:=LMc46.out;omega);intro v777 w54 ho hb hg hat;rw [← Ny776.out] at ho;have n0_:=Aside0.mk (Kd.R_over' (by (with_reducible repeat (first|apply Kd.R_alloc|apply Kd.R_drewN|apply Kd.R_drew));exact HO_6.out) (Kd.N_typed (by (with_reducible repeat (first|apply Kd.N_alloc|apply Kd.N_drewN|apply Kd.N_drew));exact HO_4.out)) (by decide) hg);have n1_:=Aside0.mk (IsS92.grown (by repeat (first|(with_reducible first|exact HI745.out|apply IsS92.alloc|apply IsS92.drewN|apply IsS92.drew|apply IsS92.set_1|refine IsS92.far ?_ NB745_763.out _)|exact HI745.out)) hg (IsS92.own_neN HI745.out HO_4.out (by decide)));have n2_:=Aside0.mk (blk_grown (g:=gb763) (o:=.cells #[.bool t754,.bool t755,.int .i64 t756,.int .i64 t757,.int .i64 t758,.slice Ao51 t759.length co51] 34 (0,0)) (by (with_reducible repeat (first|refine blk_drewN ?_ _|refine blk_drew ?_|refine blk_alloc ?_ _));exact BK763.out) hg (Kd.N_away HO_4.out (fun _ hk=>hk.2.2.2.2)));have n3_:=Aside0.mk (hb);have n4_:=Aside0.mk (ho);clear HO_6 HI745 BK763 HB HO_4 HO761;have HO_6:=n0_;have HI745:=n1_;have BK763:=n2_;have HB:=n3_;have HO778:=n4_;clear n0_ n1_ n2_ n3_ n4_;clear ho hb hg hat))
      go_roundg k1
      case measure=>have:=HK1.out;omega
      case rel=>exact ⟨(y776),(x6_1),(wrap64 (x7_1+1)),(t762),(by first|rfl|(simp;done)|(simp [*];done)),H',⟨by have:=HK1.out;omega⟩,⟨by (with_reducible repeat (first|apply Kd.N_alloc|apply Kd.N_drewN|apply Kd.N_drew));exact Kd.N_mono HO778.out (fun _ hk=>⟨hk.1,⟨hk.2.1,hk.2.2.2⟩⟩)⟩,⟨by (with_reducible repeat (first|apply Kd.R_alloc|apply Kd.R_drewN|apply Kd.R_drew));exact HO_6.out⟩,⟨by repeat (first|(with_reducible first|exact HI745.out|apply IsS92.alloc|apply IsS92.drewN|apply IsS92.drew|apply IsS92.set_1|refine IsS92.far ?_ NB745_763.out _)|exact HI745.out)⟩,⟨by repeat (first|(with_reducible first|exact HB.out|apply below_alloc|apply pw_below_drewN|apply below_drew1|refine below_set ?_ (IsS92.ge HI745.out)|refine below_set ?_ GE763.out)|exact HB.out)⟩⟩
     ·rw [if_neg c46] at H
      exact absurd H (by simp)
   ·rw [if_neg c10] at H
    have c10b0:decide (x7_1 < t749)=false:=decide_eq_false c10
    clear c10
    obtain rfl:=Option.some.inj H
    go_wp2
    go_ret
    exact ⟨_,by first|rfl|(simp [errW_none,errW_some] <;> rfl)|(simp [*,errW_none,errW_some] <;> rfl),by (with_reducible repeat (first|apply Kd.N_alloc|apply Kd.N_drewN|apply Kd.N_drew));exact Kd.N_mono HO_4.out (fun _ hk=>hk.1),by repeat (first|(with_reducible first|exact HB.out|apply below_alloc|apply pw_below_drewN|apply below_drew1|refine below_set ?_ (IsS92.ge HI745.out))|exact HB.out)⟩
end Go.Proofs.Ytkhmopmfbocokaa.T
namespace Go.Proofs.Ytkhmopmfbocokaa.T
open Go.RowKit Go.Proofs.YtkhmopmfbocokaaW.PrintWords Go.Proofs.YtkhmopmfbocokaaW.PrintLast Go.Proofs.YtkhmopmfbocokaaW.PrintMore
attribute [local go_sem] max2_int max_two
set_option linter.unusedVariables false
set_option linter.unusedSimpArgs false
def impl_ProducersRun.l0:Nat→List (S39)→List Int→List (S34)→Int→Int→Option ((List (S39)) × List Int)
 | 0,_,_,_,_,_=>none
 | k+1,x4,x5,x12,x13,x14=>if x14 < x13 then (if 0 ≤ x14 then (if x14 < (x12.length:Int) then ((impl_ProducersPut.f k x4 ((rd_T34 x12 x14).f0) ((rd_T34 x12 x14).f1) ((rd_T34 x12 x14).f2) ((rd_T34 x12 x14).f3) ((rd_T34 x12 x14).f4) ((rd_T34 x12 x14).f5)).bind fun bt787=>(if bt787.2=5 then (if x5.length < 17592186044416 then (impl_ProducersRun.l0 k x4 (x5 ++ [bt787.2]) x12 x13 (wrap64 (x14+1))) else (none)) else (if x5.length < 17592186044416 then (impl_ProducersRun.l0 k bt787.1 (x5 ++ [bt787.2]) x12 x13 (wrap64 (x14+1))) else (none)))) else (none)) else (none)) else (some (x4,x5))
def impl_ProducersRun.f (k:Nat) (l0:List (S34)):Option ((List (S39)) × List Int):=impl_ProducersRun.l0 k (([]:List (S39))) (([]:List Int)) l0 (l0.length:Int) 0
set_option maxHeartbeats 8000000 in
set_option maxRecDepth 100000 in
theorem impl_ProducersRun.calls (k:Nat) (A0:Option Addr) (c0:Nat) (l0:List (S34)) (r1:List (S39)) (r2:List Int) (w:World) (hr0:Kd.C k34 w A0 l0.length l0) (hc0:l0.length ≤ c0) (h:impl_ProducersRun.f k l0=some (r1,r2)) :
  Calls Try.prog 36 #[.slice A0 l0.length c0] w fun e w'=>∃ v0_ v1_:Value,e = .returned (.tuple #[v0_,v1_])∧Kd.R k39 39 w' w.heap.size (fun _=>True) v0_ r1∧Kd.R (Kd.int .i64) 3 w' w.heap.size (fun _=>True) v1_ r2∧Below w.heap.size w w':=by
 have hu34:=Try.underlying34
 have HR0:=Aside0.mk hr0
 have HC0:=Aside0.mk hc0
 clear hr0 hc0
 have HB:=Aside0.mk (Below.refl w.heap.size w)
 have H:(impl_ProducersRun.l0 k (([]:List (S39))) (([]:List Int)) l0 (l0.length:Int) 0)=some (r1,r2):=h
 clear h
 obtain ⟨y779,hy779⟩:∃ y_:List (S39),y_=(([]:List (S39))):=⟨_,rfl⟩
 replace H:(impl_ProducersRun.l0 k y779 (([]:List Int)) l0 (l0.length:Int) 0)=some (r1,r2):=by first|(rw [hy779];with_reducible exact H)|(have H2_:=(Option.bind_some _ _).symm.trans H;rw [hy779];with_reducible exact H2_)|(have H2_:=(Option.bind_some _ _).symm.trans H;with_reducible exact H2_)|with_reducible exact H|(rw [hy779];exact H)|exact H
 have Ny779:=Aside0.mk hy779
 clear hy779
 obtain ⟨y782,hy782⟩:∃ y_:List Int,y_=(([]:List Int)):=⟨_,rfl⟩
 replace H:(impl_ProducersRun.l0 k y779 y782 l0 (l0.length:Int) 0)=some (r1,r2):=by first|(rw [hy782];with_reducible exact H)|(have H2_:=(Option.bind_some _ _).symm.trans H;rw [hy782];with_reducible exact H2_)|(have H2_:=(Option.bind_some _ _).symm.trans H;with_reducible exact H2_)|with_reducible exact H|(rw [hy782];exact H)|exact H
 have Ny782:=Aside0.mk hy782
 clear hy782
 have H':=Aside0.mk H
 clear H
 go_enter Try.func36,Try.ntmps36
 go_wp2_with (first|((with_reducible refine gate_dst (N:=10) rfl ?_);refine Kd.R_lit k39 _ 39 ?hg (N:=10) ?hd (xs:=([]:List (S39))) (inner:=[]) (ok:=fun _=>True) (okp:=fun _=>True) ?hr ?hp (fun _ hk=>hk) trivial (Below.refl _ _) (Nat.le_refl _) (by simp) ?_;(case hd=>rfl);(case hg=>rfl);(case hr=>first|(go_simp;done)|(go_simp;rfl));(case hp=>exact (Reps.none _ _));intro v780 w2 ho3 hb hg_ hnew_;clear hg_ hnew_;(first|rw [← Ny779.out] at ho3|(simp only [Int.reduceToNat] at ho3;rw [← Ny779.out] at ho3));have n0_:=Aside0.mk (Kd.R_lower ho3 (below_size (by repeat (first|(with_reducible first|exact HB.out|apply below_alloc|apply pw_below_drewN|apply below_drew1)|exact HB.out))));have n1_:=Aside0.mk (below_step (by repeat (first|(with_reducible first|exact HB.out|apply below_alloc|apply pw_below_drewN|apply below_drew1)|exact HB.out)) hb);clear HB;have HO781:=n0_;have HB:=n1_;clear n0_ n1_;clear hb ho3)|((with_reducible refine gate_dst (N:=11) rfl ?_);refine Kd.R_lit (Kd.int .i64) _ 3 ?hg (N:=11) ?hd (xs:=([]:List Int)) (inner:=[]) (ok:=fun _=>True) (okp:=fun _=>True) ?hr ?hp (fun _ hk=>hk) trivial (Below.refl _ _) (Nat.le_refl _) (by simp) ?_;(case hd=>rfl);(case hg=>rfl);(case hr=>first|(go_simp;done)|(go_simp;rfl));(case hp=>exact (Reps.none _ _));intro v783 w4 ho5 hb hg_ hnew_;clear hg_ hnew_;(first|rw [← Ny782.out] at ho5|(simp only [Int.reduceToNat] at ho5;rw [← Ny782.out] at ho5));have n0_:=Aside0.mk (Kd.R_below (by (with_reducible repeat (first|apply Kd.R_alloc|apply Kd.R_drewN|apply Kd.R_drew));exact HO781.out) hb);have n1_:=Aside0.mk (Kd.R_lower ho5 (below_size (by repeat (first|(with_reducible first|exact HB.out|apply below_alloc|apply pw_below_drewN|apply below_drew1)|exact HB.out))));have n2_:=Aside0.mk (below_step (by repeat (first|(with_reducible first|exact HB.out|apply below_alloc|apply pw_below_drewN|apply below_drew1)|exact HB.out)) hb);clear HO781 HB;have HO781:=n0_;have HO784:=n1_;have HB:=n2_;clear n0_ n1_ n2_;clear hb ho5))
 go_loopg [4,5,14] k (fun kq v4 v5 v14 w'=>∃ (x4_1:List (S39)) (x5_1:List Int) (x14_1:Int),v14 = .int .i64 x14_1∧Aside0 (impl_ProducersRun.l0 kq x4_1 x5_1 l0 (l0.length:Int) x14_1=some (r1,r2))∧Aside0 (kq ≤ k)∧Aside0 (Kd.R k39 39 w' w.heap.size (fun _=>True) v4 x4_1)∧Aside0 (Kd.R (Kd.int .i64) 3 w' w.heap.size (fun _=>True) v5 x5_1)∧Aside0 (Below w.heap.size w w'))
 case atStart=>exact ⟨(y779),(y782),(0),(by first|rfl|(simp;done)|(simp [*];done)),H',⟨Nat.le_refl _⟩,⟨by (with_reducible repeat (first|apply Kd.R_alloc|apply Kd.R_drewN|apply Kd.R_drew));exact HO781.out⟩,⟨by (with_reducible repeat (first|apply Kd.R_alloc|apply Kd.R_drewN|apply Kd.R_drew));exact HO784.out⟩,⟨by repeat (first|(with_reducible first|exact HB.out|apply below_alloc|apply pw_below_drewN|apply below_drew1)|exact HB.out)⟩⟩
 case round=>
  clear H'
  try clear p2
  try clear c3
  obtain ⟨x4_1,x5_1,x14_1,rfl,HA,HK1,HO_4,HO_5,HB⟩:=hrel
  cases gk with
  | zero=>exact absurd HA.out (by simp [impl_ProducersRun.l0])
  | succ k1=>
   have H:=HA.out
   clear HA
   simp only [impl_ProducersRun.l0] at H
   by_cases c6:x14_1 < (l0.length:Int)
   ·rw [if_pos c6] at H
    have c6b0:decide (x14_1 < (l0.length:Int))=true:=decide_eq_true c6
    clear c6
    by_cases c7 : 0 ≤ x14_1
    ·rw [if_pos c7] at H
     have c7b0:decide (0 ≤ x14_1)=true:=decide_eq_true c7
     clear c7
     by_cases c8:x14_1 < (l0.length:Int)
     ·rw [if_pos c8] at H
      have c8b0:decide (x14_1 < (l0.length:Int))=true:=decide_eq_true c8
      clear c8
      replace H:=Option.bind_eq_some_iff.mp H
      obtain ⟨⟨t787,t790⟩,A90,H⟩:=H
      replace H:(if t790=5 then (if x5_1.length < 17592186044416 then (impl_ProducersRun.l0 k1 x4_1 (x5_1 ++ [t790]) l0 (l0.length:Int) (wrap64 (x14_1+1))) else (none)) else (if x5_1.length < 17592186044416 then (impl_ProducersRun.l0 k1 t787 (x5_1 ++ [t790]) l0 (l0.length:Int) (wrap64 (x14_1+1))) else (none)))=some (r1,r2):=H
      have A9:=Aside0.mk A90
      clear A90
      by_cases c10:t790=5
      ·rw [if_pos c10] at H
       have c10b0:(t790 == 5)=true:=beq_iff_eq.mpr c10
       have c10b1:(t790 != 5)=false:=bne_eq_false_iff_eq.mpr c10
       clear c10
       by_cases c11:x5_1.length < 17592186044416
       ·rw [if_pos c11] at H
        have LMc11:=Aside0.mk c11
        clear c11
        obtain ⟨y791,hy791⟩:∃ y_:List Int,y_=(x5_1 ++ [t790]):=⟨_,rfl⟩
        replace H:(impl_ProducersRun.l0 k1 x4_1 y791 l0 (l0.length:Int) (wrap64 (x14_1+1)))=some (r1,r2):=by first|(rw [hy791];with_reducible exact H)|(have H2_:=(Option.bind_some _ _).symm.trans H;rw [hy791];with_reducible exact H2_)|(have H2_:=(Option.bind_some _ _).symm.trans H;with_reducible exact H2_)|with_reducible exact H|(rw [hy791];exact H)|exact H
        have Ny791:=Aside0.mk hy791
        clear hy791
        have H':=Aside0.mk H
        clear H
        have p785 : 0 ≤ (x14_1:Int):=of_decide_eq_true (by first|(with_reducible assumption)|assumption)
        have q785:x14_1 < (l0.length:Int):=of_decide_eq_true (by first|(with_reducible assumption)|assumption)
        obtain ⟨ad785,A785_5,c785_5,e785,hx785_0,hx785_1,hx785_2,hx785_3,hx785_4,hx785_5,hl785_5,hi785_5⟩:=at_T34 HR0.out x14_1 p785 q785
        cases e785
        replace hx785_0:=(HB.out.cell (World.block_lt_of_cell? w _ hx785_0)).trans hx785_0
        replace hx785_1:=(HB.out.cell (World.block_lt_of_cell? w _ hx785_1)).trans hx785_1
        replace hx785_2:=(HB.out.cell (World.block_lt_of_cell? w _ hx785_2)).trans hx785_2
        replace hx785_3:=(HB.out.cell (World.block_lt_of_cell? w _ hx785_3)).trans hx785_3
        replace hx785_4:=(HB.out.cell (World.block_lt_of_cell? w _ hx785_4)).trans hx785_4
        replace hx785_5:=(HB.out.cell (World.block_lt_of_cell? w _ hx785_5)).trans hx785_5
        have HR785_5:=Aside0.mk hi785_5
        have HC785_5:=Aside0.mk hl785_5
        clear hi785_5 hl785_5
        replace p785:=eq_true p785
        replace q785:=eq_true q785
        go_wp2_with (first|((with_reducible refine gate_dst (N:=7) rfl ?_);refine box_event ?hg (N:=7) ?hd (cs:=#[.bool false,.bool false,.int .i64 0,.int .i64 0,.int .i64 0,.slice none 0 0]) (t:=34) ?hr ?_;(case hd=>rfl);(case hg=>rfl);(case hr=>first|(go_simp;done)|(go_simp;rfl));intro gb786 hg w12 hbox hb;have n0_:=Aside0.mk (Kd.R_below (by (with_reducible repeat (first|apply Kd.R_alloc|apply Kd.R_drewN|apply Kd.R_drew));exact HO_4.out) hb);have n1_:=Aside0.mk (Kd.R_below (by (with_reducible repeat (first|apply Kd.R_alloc|apply Kd.R_drewN|apply Kd.R_drew));exact HO_5.out) hb);have n2_:=Aside0.mk (below_step (by repeat (first|(with_reducible first|exact HB.out|apply below_alloc|apply pw_below_drewN|apply below_drew1)|exact HB.out)) hb);have n3_:=Aside0.mk (hbox);have n4_:=Aside0.mk ((by rw [hg];exact (below_size (by repeat (first|(with_reducible first|exact HB.out|apply below_alloc|apply pw_below_drewN|apply below_drew1)|exact HB.out))):w.heap.size ≤ gb786));have n5_:=Aside0.mk ((by rw [hg];exact (below_size (by repeat (first|(with_reducible first|exact HB.out|apply below_alloc|apply pw_below_drewN|apply below_drew1)|exact HB.out))):w.heap.size ≤ gb786));clear HO_4 HO_5 HB;have HO_4:=n0_;have HO_5:=n1_;have HB:=n2_;have BK786:=n3_;have GW786:=n4_;have GE786:=n5_;clear n0_ n1_ n2_ n3_ n4_ n5_;clear hb hbox hg;have hcz13_0:w12.cell? ⟨gb786,0,none⟩=some (.bool false):=(blk_cell BK786.out 0).trans rfl;have hcz13_1:w12.cell? ⟨gb786,1,none⟩=some (.bool false):=(blk_cell BK786.out 1).trans rfl;have hcz13_2:w12.cell? ⟨gb786,2,none⟩=some (.int .i64 0):=(blk_cell BK786.out 2).trans rfl;have hcz13_3:w12.cell? ⟨gb786,3,none⟩=some (.int .i64 0):=(blk_cell BK786.out 3).trans rfl;have hcz13_4:w12.cell? ⟨gb786,4,none⟩=some (.int .i64 0):=(blk_cell BK786.out 4).trans rfl;have hcz13_5:w12.cell? ⟨gb786,5,none⟩=some (.slice none 0 0):=(blk_cell BK786.out 5).trans rfl;have hfz13_0:=blk_frozen BK786.out 0;have hfz13_1:=blk_frozen BK786.out 1;have hfz13_2:=blk_frozen BK786.out 2;have hfz13_3:=blk_frozen BK786.out 3;have hfz13_4:=blk_frozen BK786.out 4;have hfz13_5:=blk_frozen BK786.out 5;obtain ⟨Ao14,co14,eo14⟩:=Kd.R_slice HO_4.out;subst eo14)|((with_reducible refine gate_callee (f:=29) rfl ?_);refine goesL_ (some 21) rfl rfl Try.func29 (by kernel_rfl) rfl #[.slice Ao14 x4_1.length co14,.agg #[.bool ((rd_T34 l0 x14_1).f0),.bool ((rd_T34 l0 x14_1).f1),.int .i64 ((rd_T34 l0 x14_1).f2),.int .i64 ((rd_T34 l0 x14_1).f3),.int .i64 ((rd_T34 l0 x14_1).f4),.slice A785_5 ((rd_T34 l0 x14_1).f5).length c785_5]] rfl (by (try simp only [map_toArray,map_cons,map_nil]);first|done|rfl|(simp only [length_drop,length_take];rfl)) ?_;(with_reducible refine (impl_ProducersPut.calls k1 _ _ x4_1 ((rd_T34 l0 x14_1).f0) ((rd_T34 l0 x14_1).f1) ((rd_T34 l0 x14_1).f2) ((rd_T34 l0 x14_1).f3) ((rd_T34 l0 x14_1).f4) _ _ ((rd_T34 l0 x14_1).f5) t787 t790 _ ?side1 ?side2 ?side3 ?side4 A9.out).mono ?_);(case side1=>refine (Kd.R_reads' (e:=39) (base:=w.heap.size) (ok:=fun k_=>True) (n:=x4_1.length) (c:=co14) ?_).2.2;exact (by (with_reducible repeat (first|apply Kd.R_alloc|apply Kd.R_drewN|apply Kd.R_drew));exact (Kd.R_mono (Kd.R_far (p:=⟨gb786,5,none⟩) (Kd.R_far (p:=⟨gb786,4,none⟩) (Kd.R_far (p:=⟨gb786,3,none⟩) (Kd.R_far (p:=⟨gb786,2,none⟩) (Kd.R_far (p:=⟨gb786,1,none⟩) (Kd.R_far (p:=⟨gb786,0,none⟩) (Kd.R_types HO_4.out BK786.out (by decide)) (fun _ hk=>hk.2) (.bool ((rd_T34 l0 x14_1).f0))) (fun _ hk=>hk.2) (.bool ((rd_T34 l0 x14_1).f1))) (fun _ hk=>hk.2) (.int .i64 ((rd_T34 l0 x14_1).f2))) (fun _ hk=>hk.2) (.int .i64 ((rd_T34 l0 x14_1).f3))) (fun _ hk=>hk.2) (.int .i64 ((rd_T34 l0 x14_1).f4))) (fun _ hk=>hk.2) (.slice A785_5 ((rd_T34 l0 x14_1).f5).length c785_5)) (fun _ h_=>h_.1))));(case side2=>exact (Kd.R_reads' HO_4.out).2.1);(case side3=>exact Kd.C_below HR785_5.out (by repeat (first|(with_reducible first|exact HB.out|apply below_alloc|apply pw_below_drewN|apply below_drew1|refine below_set ?_ GE786.out)|exact HB.out)));(case side4=>exact HC785_5.out);rintro e w15 ⟨v788,rfl,ho0,hb⟩;refine ⟨_,rfl,?_⟩;have n0_:=Aside0.mk (Kd.R_elder' (by (with_reducible repeat (first|apply Kd.R_alloc|apply Kd.R_drewN|apply Kd.R_drew));exact (Kd.R_mono (Kd.R_far (p:=⟨gb786,5,none⟩) (Kd.R_far (p:=⟨gb786,4,none⟩) (Kd.R_far (p:=⟨gb786,3,none⟩) (Kd.R_far (p:=⟨gb786,2,none⟩) (Kd.R_far (p:=⟨gb786,1,none⟩) (Kd.R_far (p:=⟨gb786,0,none⟩) (Kd.R_types HO_4.out BK786.out (by decide)) (fun _ hk=>hk.2) (.bool ((rd_T34 l0 x14_1).f0))) (fun _ hk=>hk.2) (.bool ((rd_T34 l0 x14_1).f1))) (fun _ hk=>hk.2) (.int .i64 ((rd_T34 l0 x14_1).f2))) (fun _ hk=>hk.2) (.int .i64 ((rd_T34 l0 x14_1).f3))) (fun _ hk=>hk.2) (.int .i64 ((rd_T34 l0 x14_1).f4))) (fun _ hk=>hk.2) (.slice A785_5 ((rd_T34 l0 x14_1).f5).length c785_5)) (fun _ h_=>h_.1))) (Kd.R_base ho0) hb);have n1_:=Aside0.mk (Kd.R_below (by (with_reducible repeat (first|apply Kd.R_alloc|apply Kd.R_drewN|apply Kd.R_drew));exact (Kd.R_mono (Kd.R_far (p:=⟨gb786,5,none⟩) (Kd.R_far (p:=⟨gb786,4,none⟩) (Kd.R_far (p:=⟨gb786,3,none⟩) (Kd.R_far (p:=⟨gb786,2,none⟩) (Kd.R_far (p:=⟨gb786,1,none⟩) (Kd.R_far (p:=⟨gb786,0,none⟩) (Kd.R_types HO_5.out BK786.out (by decide)) (fun _ hk=>hk.2) (.bool ((rd_T34 l0 x14_1).f0))) (fun _ hk=>hk.2) (.bool ((rd_T34 l0 x14_1).f1))) (fun _ hk=>hk.2) (.int .i64 ((rd_T34 l0 x14_1).f2))) (fun _ hk=>hk.2) (.int .i64 ((rd_T34 l0 x14_1).f3))) (fun _ hk=>hk.2) (.int .i64 ((rd_T34 l0 x14_1).f4))) (fun _ hk=>hk.2) (.slice A785_5 ((rd_T34 l0 x14_1).f5).length c785_5)) (fun _ h_=>h_.1))) hb);have n2_:=Aside0.mk (Kd.R_lower (Kd.R_new' ho0 (Kd.R_lt (by (with_reducible repeat (first|apply Kd.R_alloc|apply Kd.R_drewN|apply Kd.R_drew));exact (Kd.R_mono (Kd.R_far (p:=⟨gb786,5,none⟩) (Kd.R_far (p:=⟨gb786,4,none⟩) (Kd.R_far (p:=⟨gb786,3,none⟩) (Kd.R_far (p:=⟨gb786,2,none⟩) (Kd.R_far (p:=⟨gb786,1,none⟩) (Kd.R_far (p:=⟨gb786,0,none⟩) (Kd.R_types HO_4.out BK786.out (by decide)) (fun _ hk=>hk.2) (.bool ((rd_T34 l0 x14_1).f0))) (fun _ hk=>hk.2) (.bool ((rd_T34 l0 x14_1).f1))) (fun _ hk=>hk.2) (.int .i64 ((rd_T34 l0 x14_1).f2))) (fun _ hk=>hk.2) (.int .i64 ((rd_T34 l0 x14_1).f3))) (fun _ hk=>hk.2) (.int .i64 ((rd_T34 l0 x14_1).f4))) (fun _ hk=>hk.2) (.slice A785_5 ((rd_T34 l0 x14_1).f5).length c785_5)) (fun _ h_=>h_.1))))) (below_size (by repeat (first|(with_reducible first|exact HB.out|apply below_alloc|apply pw_below_drewN|apply below_drew1|refine below_set ?_ GE786.out)|exact HB.out))));have n3_:=Aside0.mk (blk_below (g:=gb786) (o:=.cells #[.bool ((rd_T34 l0 x14_1).f0),.bool ((rd_T34 l0 x14_1).f1),.int .i64 ((rd_T34 l0 x14_1).f2),.int .i64 ((rd_T34 l0 x14_1).f3),.int .i64 ((rd_T34 l0 x14_1).f4),.slice A785_5 ((rd_T34 l0 x14_1).f5).length c785_5] 34 (0,0)) (by (with_reducible repeat (first|refine blk_drewN ?_ _|refine blk_drew ?_|refine blk_alloc ?_ _));refine blk_put (cs:=#[.bool ((rd_T34 l0 x14_1).f0),.bool ((rd_T34 l0 x14_1).f1),.int .i64 ((rd_T34 l0 x14_1).f2),.int .i64 ((rd_T34 l0 x14_1).f3),.int .i64 ((rd_T34 l0 x14_1).f4),.slice none 0 0]) ?_ 5 _ rfl;(with_reducible repeat (first|refine blk_drewN ?_ _|refine blk_drew ?_|refine blk_alloc ?_ _));refine blk_put (cs:=#[.bool ((rd_T34 l0 x14_1).f0),.bool ((rd_T34 l0 x14_1).f1),.int .i64 ((rd_T34 l0 x14_1).f2),.int .i64 ((rd_T34 l0 x14_1).f3),.int .i64 0,.slice none 0 0]) ?_ 4 _ rfl;(with_reducible repeat (first|refine blk_drewN ?_ _|refine blk_drew ?_|refine blk_alloc ?_ _));refine blk_put (cs:=#[.bool ((rd_T34 l0 x14_1).f0),.bool ((rd_T34 l0 x14_1).f1),.int .i64 ((rd_T34 l0 x14_1).f2),.int .i64 0,.int .i64 0,.slice none 0 0]) ?_ 3 _ rfl;(with_reducible repeat (first|refine blk_drewN ?_ _|refine blk_drew ?_|refine blk_alloc ?_ _));refine blk_put (cs:=#[.bool ((rd_T34 l0 x14_1).f0),.bool ((rd_T34 l0 x14_1).f1),.int .i64 0,.int .i64 0,.int .i64 0,.slice none 0 0]) ?_ 2 _ rfl;(with_reducible repeat (first|refine blk_drewN ?_ _|refine blk_drew ?_|refine blk_alloc ?_ _));refine blk_put (cs:=#[.bool ((rd_T34 l0 x14_1).f0),.bool false,.int .i64 0,.int .i64 0,.int .i64 0,.slice none 0 0]) ?_ 1 _ rfl;(with_reducible repeat (first|refine blk_drewN ?_ _|refine blk_drew ?_|refine blk_alloc ?_ _));refine blk_put (cs:=#[.bool false,.bool false,.int .i64 0,.int .i64 0,.int .i64 0,.slice none 0 0]) ?_ 0 _ rfl;(with_reducible repeat (first|refine blk_drewN ?_ _|refine blk_drew ?_|refine blk_alloc ?_ _));exact BK786.out) hb);have n4_:=Aside0.mk (below_step (by repeat (first|(with_reducible first|exact HB.out|apply below_alloc|apply pw_below_drewN|apply below_drew1|refine below_set ?_ GE786.out)|exact HB.out)) hb);clear HO_4 HO_5 BK786 HB;have HO_4:=n0_;have HO_5:=n1_;have HO789:=n2_;have BK786:=n3_;have HB:=n4_;clear n0_ n1_ n2_ n3_ n4_;(try clear hb);(try clear hb2);(try clear hk);(try clear hi);(try clear ho0))|((with_reducible refine gate_builtin (b:=.append) (xs:=#[.tmp 27,.tmp 29]) rfl ?_);at_builtin;refine Kd.R_append (Kd.int .i64) (w0:=w) w.heap.size rfl (.tmp 27) (.tmp 29) 53 3 (.int .i64 0) 8 rfl Try.underlying53 info3 rfl (by decide) (by omega) u5 x5_1 t790 [.int .i64 t790] (fun _=>True) (fun _=>False) rfl rfl ?aP (fun _ hk=>hk.elim) ?aF ?aO ?aB ?aS ?aL ?_;(case aP=>exact rfl);(case aB=>exact (by repeat (first|(with_reducible first|exact HB.out|apply below_alloc|apply pw_below_drewN|apply below_drew1|refine below_set ?_ GE786.out)|exact HB.out)));(case aF=>exact (fun _ _=>trivial));(case aO=>exact (by (with_reducible repeat (first|apply Kd.R_alloc|apply Kd.R_drewN|apply Kd.R_drew));exact HO_5.out));(case aS=>exact (below_size (by repeat (first|(with_reducible first|exact HB.out|apply below_alloc|apply pw_below_drewN|apply below_drew1|refine below_set ?_ GE786.out)|exact HB.out))));(case aL=>have:=LMc11.out;omega);intro v792 w16 ho hb hg hat;rw [← Ny791.out] at ho;have n0_:=Aside0.mk (Kd.R_over' (by (with_reducible repeat (first|apply Kd.R_alloc|apply Kd.R_drewN|apply Kd.R_drew));exact HO_4.out) (Kd.R_typed (by (with_reducible repeat (first|apply Kd.R_alloc|apply Kd.R_drewN|apply Kd.R_drew));exact HO_5.out)) (by decide) hg);have n1_:=Aside0.mk (blk_grown (g:=gb786) (o:=.cells #[.bool ((rd_T34 l0 x14_1).f0),.bool ((rd_T34 l0 x14_1).f1),.int .i64 ((rd_T34 l0 x14_1).f2),.int .i64 ((rd_T34 l0 x14_1).f3),.int .i64 ((rd_T34 l0 x14_1).f4),.slice A785_5 ((rd_T34 l0 x14_1).f5).length c785_5] 34 (0,0)) (by (with_reducible repeat (first|refine blk_drewN ?_ _|refine blk_drew ?_|refine blk_alloc ?_ _));exact BK786.out) hg (Kd.R_ne HO_5.out BK786.out (by decide)));have n2_:=Aside0.mk (Kd.R_over' (by (with_reducible repeat (first|apply Kd.R_alloc|apply Kd.R_drewN|apply Kd.R_drew));exact HO789.out) (Kd.R_typed (by (with_reducible repeat (first|apply Kd.R_alloc|apply Kd.R_drewN|apply Kd.R_drew));exact HO_5.out)) (by decide) hg);have n3_:=Aside0.mk (hb);have n4_:=Aside0.mk (ho);clear HO_4 BK786 HO789 HB HO_5;have HO_4:=n0_;have BK786:=n1_;have HO789:=n2_;have HB:=n3_;have HO793:=n4_;clear n0_ n1_ n2_ n3_ n4_;clear ho hb hg hat))
        go_roundg k1
        case measure=>have:=HK1.out;omega
        case rel=>exact ⟨(x4_1),(y791),(wrap64 (x14_1+1)),(by first|rfl|(simp;done)|(simp [*];done)),H',⟨by have:=HK1.out;omega⟩,⟨by (with_reducible repeat (first|apply Kd.R_alloc|apply Kd.R_drewN|apply Kd.R_drew));exact Kd.R_mono HO_4.out (fun _ hk=>trivial)⟩,⟨by (with_reducible repeat (first|apply Kd.R_alloc|apply Kd.R_drewN|apply Kd.R_drew));exact HO793.out⟩,⟨by repeat (first|(with_reducible first|exact HB.out|apply below_alloc|apply pw_below_drewN|apply below_drew1|refine below_set ?_ GE786.out)|exact HB.out)⟩⟩
       ·rw [if_neg c11] at H
        exact absurd H (by simp)
      ·rw [if_neg c10] at H
       have c10b0:(t790 == 5)=false:=beq_eq_false_iff_ne.mpr c10
       have c10b1:(t790 != 5)=true:=bne_iff_ne.mpr c10
       by_cases c17:x5_1.length < 17592186044416
       ·rw [if_pos c17] at H
        have LMc17:=Aside0.mk c17
        clear c17
        obtain ⟨y794,hy794⟩:∃ y_:List Int,y_=(x5_1 ++ [t790]):=⟨_,rfl⟩
        replace H:(impl_ProducersRun.l0 k1 t787 y794 l0 (l0.length:Int) (wrap64 (x14_1+1)))=some (r1,r2):=by first|(rw [hy794];with_reducible exact H)|(have H2_:=(Option.bind_some _ _).symm.trans H;rw [hy794];with_reducible exact H2_)|(have H2_:=(Option.bind_some _ _).symm.trans H;with_reducible exact H2_)|with_reducible exact H|(rw [hy794];exact H)|exact H
        have Ny794:=Aside0.mk hy794
        clear hy794
        have H':=Aside0.mk H
        clear H
        have p785 : 0 ≤ (x14_1:Int):=of_decide_eq_true (by first|(with_reducible assumption)|assumption)
        have q785:x14_1 < (l0.length:Int):=of_decide_eq_true (by first|(with_reducible assumption)|assumption)
        obtain ⟨ad785,A785_5,c785_5,e785,hx785_0,hx785_1,hx785_2,hx785_3,hx785_4,hx785_5,hl785_5,hi785_5⟩:=at_T34 HR0.out x14_1 p785 q785
        cases e785
        replace hx785_0:=(HB.out.cell (World.block_lt_of_cell? w _ hx785_0)).trans hx785_0
        replace hx785_1:=(HB.out.cell (World.block_lt_of_cell? w _ hx785_1)).trans hx785_1
        replace hx785_2:=(HB.out.cell (World.block_lt_of_cell? w _ hx785_2)).trans hx785_2
        replace hx785_3:=(HB.out.cell (World.block_lt_of_cell? w _ hx785_3)).trans hx785_3
        replace hx785_4:=(HB.out.cell (World.block_lt_of_cell? w _ hx785_4)).trans hx785_4
        replace hx785_5:=(HB.out.cell (World.block_lt_of_cell? w _ hx785_5)).trans hx785_5
        have HR785_5:=Aside0.mk hi785_5
        have HC785_5:=Aside0.mk hl785_5
        clear hi785_5 hl785_5
        replace p785:=eq_true p785
        replace q785:=eq_true q785
        go_wp2_with (first|((with_reducible refine gate_dst (N:=7) rfl ?_);refine box_event ?hg (N:=7) ?hd (cs:=#[.bool false,.bool false,.int .i64 0,.int .i64 0,.int .i64 0,.slice none 0 0]) (t:=34) ?hr ?_;(case hd=>rfl);(case hg=>rfl);(case hr=>first|(go_simp;done)|(go_simp;rfl));intro gb786 hg w18 hbox hb;have n0_:=Aside0.mk (Kd.R_below (by (with_reducible repeat (first|apply Kd.R_alloc|apply Kd.R_drewN|apply Kd.R_drew));exact HO_4.out) hb);have n1_:=Aside0.mk (Kd.R_below (by (with_reducible repeat (first|apply Kd.R_alloc|apply Kd.R_drewN|apply Kd.R_drew));exact HO_5.out) hb);have n2_:=Aside0.mk (below_step (by repeat (first|(with_reducible first|exact HB.out|apply below_alloc|apply pw_below_drewN|apply below_drew1)|exact HB.out)) hb);have n3_:=Aside0.mk (hbox);have n4_:=Aside0.mk ((by rw [hg];exact (below_size (by repeat (first|(with_reducible first|exact HB.out|apply below_alloc|apply pw_below_drewN|apply below_drew1)|exact HB.out))):w.heap.size ≤ gb786));have n5_:=Aside0.mk ((by rw [hg];exact (below_size (by repeat (first|(with_reducible first|exact HB.out|apply below_alloc|apply pw_below_drewN|apply below_drew1)|exact HB.out))):w.heap.size ≤ gb786));clear HO_4 HO_5 HB;have HO_4:=n0_;have HO_5:=n1_;have HB:=n2_;have BK786:=n3_;have GW786:=n4_;have GE786:=n5_;clear n0_ n1_ n2_ n3_ n4_ n5_;clear hb hbox hg;have hcz19_0:w18.cell? ⟨gb786,0,none⟩=some (.bool false):=(blk_cell BK786.out 0).trans rfl;have hcz19_1:w18.cell? ⟨gb786,1,none⟩=some (.bool false):=(blk_cell BK786.out 1).trans rfl;have hcz19_2:w18.cell? ⟨gb786,2,none⟩=some (.int .i64 0):=(blk_cell BK786.out 2).trans rfl;have hcz19_3:w18.cell? ⟨gb786,3,none⟩=some (.int .i64 0):=(blk_cell BK786.out 3).trans rfl;have hcz19_4:w18.cell? ⟨gb786,4,none⟩=some (.int .i64 0):=(blk_cell BK786.out 4).trans rfl;have hcz19_5:w18.cell? ⟨gb786,5,none⟩=some (.slice none 0 0):=(blk_cell BK786.out 5).trans rfl;have hfz19_0:=blk_frozen BK786.out 0;have hfz19_1:=blk_frozen BK786.out 1;have hfz19_2:=blk_frozen BK786.out 2;have hfz19_3:=blk_frozen BK786.out 3;have hfz19_4:=blk_frozen BK786.out 4;have hfz19_5:=blk_frozen BK786.out 5;obtain ⟨Ao20,co20,eo20⟩:=Kd.R_slice HO_4.out;subst eo20)|((with_reducible refine gate_callee (f:=29) rfl ?_);refine goesL_ (some 21) rfl rfl Try.func29 (by kernel_rfl) rfl #[.slice Ao20 x4_1.length co20,.agg #[.bool ((rd_T34 l0 x14_1).f0),.bool ((rd_T34 l0 x14_1).f1),.int .i64 ((rd_T34 l0 x14_1).f2),.int .i64 ((rd_T34 l0 x14_1).f3),.int .i64 ((rd_T34 l0 x14_1).f4),.slice A785_5 ((rd_T34 l0 x14_1).f5).length c785_5]] rfl (by (try simp only [map_toArray,map_cons,map_nil]);first|done|rfl|(simp only [length_drop,length_take];rfl)) ?_;(with_reducible refine (impl_ProducersPut.calls k1 _ _ x4_1 ((rd_T34 l0 x14_1).f0) ((rd_T34 l0 x14_1).f1) ((rd_T34 l0 x14_1).f2) ((rd_T34 l0 x14_1).f3) ((rd_T34 l0 x14_1).f4) _ _ ((rd_T34 l0 x14_1).f5) t787 t790 _ ?side1 ?side2 ?side3 ?side4 A9.out).mono ?_);(case side1=>refine (Kd.R_reads' (e:=39) (base:=w.heap.size) (ok:=fun k_=>True) (n:=x4_1.length) (c:=co20) ?_).2.2;exact (by (with_reducible repeat (first|apply Kd.R_alloc|apply Kd.R_drewN|apply Kd.R_drew));exact (Kd.R_mono (Kd.R_far (p:=⟨gb786,5,none⟩) (Kd.R_far (p:=⟨gb786,4,none⟩) (Kd.R_far (p:=⟨gb786,3,none⟩) (Kd.R_far (p:=⟨gb786,2,none⟩) (Kd.R_far (p:=⟨gb786,1,none⟩) (Kd.R_far (p:=⟨gb786,0,none⟩) (Kd.R_types HO_4.out BK786.out (by decide)) (fun _ hk=>hk.2) (.bool ((rd_T34 l0 x14_1).f0))) (fun _ hk=>hk.2) (.bool ((rd_T34 l0 x14_1).f1))) (fun _ hk=>hk.2) (.int .i64 ((rd_T34 l0 x14_1).f2))) (fun _ hk=>hk.2) (.int .i64 ((rd_T34 l0 x14_1).f3))) (fun _ hk=>hk.2) (.int .i64 ((rd_T34 l0 x14_1).f4))) (fun _ hk=>hk.2) (.slice A785_5 ((rd_T34 l0 x14_1).f5).length c785_5)) (fun _ h_=>h_.1))));(case side2=>exact (Kd.R_reads' HO_4.out).2.1);(case side3=>exact Kd.C_below HR785_5.out (by repeat (first|(with_reducible first|exact HB.out|apply below_alloc|apply pw_below_drewN|apply below_drew1|refine below_set ?_ GE786.out)|exact HB.out)));(case side4=>exact HC785_5.out);rintro e w21 ⟨v788,rfl,ho0,hb⟩;refine ⟨_,rfl,?_⟩;have n0_:=Aside0.mk (Kd.R_elder' (by (with_reducible repeat (first|apply Kd.R_alloc|apply Kd.R_drewN|apply Kd.R_drew));exact (Kd.R_mono (Kd.R_far (p:=⟨gb786,5,none⟩) (Kd.R_far (p:=⟨gb786,4,none⟩) (Kd.R_far (p:=⟨gb786,3,none⟩) (Kd.R_far (p:=⟨gb786,2,none⟩) (Kd.R_far (p:=⟨gb786,1,none⟩) (Kd.R_far (p:=⟨gb786,0,none⟩) (Kd.R_types HO_4.out BK786.out (by decide)) (fun _ hk=>hk.2) (.bool ((rd_T34 l0 x14_1).f0))) (fun _ hk=>hk.2) (.bool ((rd_T34 l0 x14_1).f1))) (fun _ hk=>hk.2) (.int .i64 ((rd_T34 l0 x14_1).f2))) (fun _ hk=>hk.2) (.int .i64 ((rd_T34 l0 x14_1).f3))) (fun _ hk=>hk.2) (.int .i64 ((rd_T34 l0 x14_1).f4))) (fun _ hk=>hk.2) (.slice A785_5 ((rd_T34 l0 x14_1).f5).length c785_5)) (fun _ h_=>h_.1))) (Kd.R_base ho0) hb);have n1_:=Aside0.mk (Kd.R_below (by (with_reducible repeat (first|apply Kd.R_alloc|apply Kd.R_drewN|apply Kd.R_drew));exact (Kd.R_mono (Kd.R_far (p:=⟨gb786,5,none⟩) (Kd.R_far (p:=⟨gb786,4,none⟩) (Kd.R_far (p:=⟨gb786,3,none⟩) (Kd.R_far (p:=⟨gb786,2,none⟩) (Kd.R_far (p:=⟨gb786,1,none⟩) (Kd.R_far (p:=⟨gb786,0,none⟩) (Kd.R_types HO_5.out BK786.out (by decide)) (fun _ hk=>hk.2) (.bool ((rd_T34 l0 x14_1).f0))) (fun _ hk=>hk.2) (.bool ((rd_T34 l0 x14_1).f1))) (fun _ hk=>hk.2) (.int .i64 ((rd_T34 l0 x14_1).f2))) (fun _ hk=>hk.2) (.int .i64 ((rd_T34 l0 x14_1).f3))) (fun _ hk=>hk.2) (.int .i64 ((rd_T34 l0 x14_1).f4))) (fun _ hk=>hk.2) (.slice A785_5 ((rd_T34 l0 x14_1).f5).length c785_5)) (fun _ h_=>h_.1))) hb);have n2_:=Aside0.mk (Kd.R_lower (Kd.R_new' ho0 (Kd.R_lt (by (with_reducible repeat (first|apply Kd.R_alloc|apply Kd.R_drewN|apply Kd.R_drew));exact (Kd.R_mono (Kd.R_far (p:=⟨gb786,5,none⟩) (Kd.R_far (p:=⟨gb786,4,none⟩) (Kd.R_far (p:=⟨gb786,3,none⟩) (Kd.R_far (p:=⟨gb786,2,none⟩) (Kd.R_far (p:=⟨gb786,1,none⟩) (Kd.R_far (p:=⟨gb786,0,none⟩) (Kd.R_types HO_4.out BK786.out (by decide)) (fun _ hk=>hk.2) (.bool ((rd_T34 l0 x14_1).f0))) (fun _ hk=>hk.2) (.bool ((rd_T34 l0 x14_1).f1))) (fun _ hk=>hk.2) (.int .i64 ((rd_T34 l0 x14_1).f2))) (fun _ hk=>hk.2) (.int .i64 ((rd_T34 l0 x14_1).f3))) (fun _ hk=>hk.2) (.int .i64 ((rd_T34 l0 x14_1).f4))) (fun _ hk=>hk.2) (.slice A785_5 ((rd_T34 l0 x14_1).f5).length c785_5)) (fun _ h_=>h_.1))))) (below_size (by repeat (first|(with_reducible first|exact HB.out|apply below_alloc|apply pw_below_drewN|apply below_drew1|refine below_set ?_ GE786.out)|exact HB.out))));have n3_:=Aside0.mk (blk_below (g:=gb786) (o:=.cells #[.bool ((rd_T34 l0 x14_1).f0),.bool ((rd_T34 l0 x14_1).f1),.int .i64 ((rd_T34 l0 x14_1).f2),.int .i64 ((rd_T34 l0 x14_1).f3),.int .i64 ((rd_T34 l0 x14_1).f4),.slice A785_5 ((rd_T34 l0 x14_1).f5).length c785_5] 34 (0,0)) (by (with_reducible repeat (first|refine blk_drewN ?_ _|refine blk_drew ?_|refine blk_alloc ?_ _));refine blk_put (cs:=#[.bool ((rd_T34 l0 x14_1).f0),.bool ((rd_T34 l0 x14_1).f1),.int .i64 ((rd_T34 l0 x14_1).f2),.int .i64 ((rd_T34 l0 x14_1).f3),.int .i64 ((rd_T34 l0 x14_1).f4),.slice none 0 0]) ?_ 5 _ rfl;(with_reducible repeat (first|refine blk_drewN ?_ _|refine blk_drew ?_|refine blk_alloc ?_ _));refine blk_put (cs:=#[.bool ((rd_T34 l0 x14_1).f0),.bool ((rd_T34 l0 x14_1).f1),.int .i64 ((rd_T34 l0 x14_1).f2),.int .i64 ((rd_T34 l0 x14_1).f3),.int .i64 0,.slice none 0 0]) ?_ 4 _ rfl;(with_reducible repeat (first|refine blk_drewN ?_ _|refine blk_drew ?_|refine blk_alloc ?_ _));refine blk_put (cs:=#[.bool ((rd_T34 l0 x14_1).f0),.bool ((rd_T34 l0 x14_1).f1),.int .i64 ((rd_T34 l0 x14_1).f2),.int .i64 0,.int .i64 0,.slice none 0 0]) ?_ 3 _ rfl;(with_reducible repeat (first|refine blk_drewN ?_ _|refine blk_drew ?_|refine blk_alloc ?_ _));refine blk_put (cs:=#[.bool ((rd_T34 l0 x14_1).f0),.bool ((rd_T34 l0 x14_1).f1),.int .i64 0,.int .i64 0,.int .i64 0,.slice none 0 0]) ?_ 2 _ rfl;(with_reducible repeat (first|refine blk_drewN ?_ _|refine blk_drew ?_|refine blk_alloc ?_ _));refine blk_put (cs:=#[.bool ((rd_T34 l0 x14_1).f0),.bool false,.int .i64 0,.int .i64 0,.int .i64 0,.slice none 0 0]) ?_ 1 _ rfl;(with_reducible repeat (first|refine blk_drewN ?_ _|refine blk_drew ?_|refine blk_alloc ?_ _));refine blk_put (cs:=#[.bool false,.bool false,.int .i64 0,.int .i64 0,.int .i64 0,.slice none 0 0]) ?_ 0 _ rfl;(with_reducible repeat (first|refine blk_drewN ?_ _|refine blk_drew ?_|refine blk_alloc ?_ _));exact BK786.out) hb);have n4_:=Aside0.mk (below_step (by repeat (first|(with_reducible first|exact HB.out|apply below_alloc|apply pw_below_drewN|apply below_drew1|refine below_set ?_ GE786.out)|exact HB.out)) hb);clear HO_4 HO_5 BK786 HB;have HO_4:=n0_;have HO_5:=n1_;have HO789:=n2_;have BK786:=n3_;have HB:=n4_;clear n0_ n1_ n2_ n3_ n4_;(try clear hb);(try clear hb2);(try clear hk);(try clear hi);(try clear ho0))|((with_reducible refine gate_builtin (b:=.append) (xs:=#[.tmp 27,.tmp 29]) rfl ?_);at_builtin;refine Kd.R_append (Kd.int .i64) (w0:=w) w.heap.size rfl (.tmp 27) (.tmp 29) 53 3 (.int .i64 0) 8 rfl Try.underlying53 info3 rfl (by decide) (by omega) u5 x5_1 t790 [.int .i64 t790] (fun _=>True) (fun _=>False) rfl rfl ?aP (fun _ hk=>hk.elim) ?aF ?aO ?aB ?aS ?aL ?_;(case aP=>exact rfl);(case aB=>exact (by repeat (first|(with_reducible first|exact HB.out|apply below_alloc|apply pw_below_drewN|apply below_drew1|refine below_set ?_ GE786.out)|exact HB.out)));(case aF=>exact (fun _ _=>trivial));(case aO=>exact (by (with_reducible repeat (first|apply Kd.R_alloc|apply Kd.R_drewN|apply Kd.R_drew));exact HO_5.out));(case aS=>exact (below_size (by repeat (first|(with_reducible first|exact HB.out|apply below_alloc|apply pw_below_drewN|apply below_drew1|refine below_set ?_ GE786.out)|exact HB.out))));(case aL=>have:=LMc17.out;omega);intro v795 w22 ho hb hg hat;rw [← Ny794.out] at ho;have n0_:=Aside0.mk (Kd.R_over' (by (with_reducible repeat (first|apply Kd.R_alloc|apply Kd.R_drewN|apply Kd.R_drew));exact HO_4.out) (Kd.R_typed (by (with_reducible repeat (first|apply Kd.R_alloc|apply Kd.R_drewN|apply Kd.R_drew));exact HO_5.out)) (by decide) hg);have n1_:=Aside0.mk (blk_grown (g:=gb786) (o:=.cells #[.bool ((rd_T34 l0 x14_1).f0),.bool ((rd_T34 l0 x14_1).f1),.int .i64 ((rd_T34 l0 x14_1).f2),.int .i64 ((rd_T34 l0 x14_1).f3),.int .i64 ((rd_T34 l0 x14_1).f4),.slice A785_5 ((rd_T34 l0 x14_1).f5).length c785_5] 34 (0,0)) (by (with_reducible repeat (first|refine blk_drewN ?_ _|refine blk_drew ?_|refine blk_alloc ?_ _));exact BK786.out) hg (Kd.R_ne HO_5.out BK786.out (by decide)));have n2_:=Aside0.mk (Kd.R_over' (by (with_reducible repeat (first|apply Kd.R_alloc|apply Kd.R_drewN|apply Kd.R_drew));exact HO789.out) (Kd.R_typed (by (with_reducible repeat (first|apply Kd.R_alloc|apply Kd.R_drewN|apply Kd.R_drew));exact HO_5.out)) (by decide) hg);have n3_:=Aside0.mk (hb);have n4_:=Aside0.mk (ho);clear HO_4 BK786 HO789 HB HO_5;have HO_4:=n0_;have BK786:=n1_;have HO789:=n2_;have HB:=n3_;have HO796:=n4_;clear n0_ n1_ n2_ n3_ n4_;clear ho hb hg hat))
        go_roundg k1
        case measure=>have:=HK1.out;omega
        case rel=>exact ⟨(t787),(y794),(wrap64 (x14_1+1)),(by first|rfl|(simp;done)|(simp [*];done)),H',⟨by have:=HK1.out;omega⟩,⟨by (with_reducible repeat (first|apply Kd.R_alloc|apply Kd.R_drewN|apply Kd.R_drew));exact Kd.R_mono HO789.out (fun _ hk=>trivial)⟩,⟨by (with_reducible repeat (first|apply Kd.R_alloc|apply Kd.R_drewN|apply Kd.R_drew));exact HO796.out⟩,⟨by repeat (first|(with_reducible first|exact HB.out|apply below_alloc|apply pw_below_drewN|apply below_drew1|refine below_set ?_ GE786.out)|exact HB.out)⟩⟩
       ·rw [if_neg c17] at H
        exact absurd H (by simp)
     ·rw [if_neg c8] at H
      exact absurd H (by simp)
    ·rw [if_neg c7] at H
     exact absurd H (by simp)
   ·rw [if_neg c6] at H
    have c6b0:decide (x14_1 < (l0.length:Int))=false:=decide_eq_false c6
    clear c6
    simp only [Option.some.injEq,Prod.mk.injEq] at H
    obtain ⟨rfl,rfl⟩:=H
    go_wp2
    go_ret2
    exact ⟨_,_,by first|rfl|(simp [errW_none,errW_some] <;> rfl)|(simp [*,errW_none,errW_some] <;> rfl),by (with_reducible repeat (first|apply Kd.R_alloc|apply Kd.R_drewN|apply Kd.R_drew));exact HO_4.out,by (with_reducible repeat (first|apply Kd.R_alloc|apply Kd.R_drewN|apply Kd.R_drew));exact HO_5.out,by repeat (first|(with_reducible first|exact HB.out|apply below_alloc|apply pw_below_drewN|apply below_drew1)|exact HB.out)⟩
end Go.Proofs.Ytkhmopmfbocokaa.T
namespace Go.Proofs.Ytkhmopmfbocokaa.T
open Go.RowKit Go.Proofs.YtkhmopmfbocokaaW.PrintWords Go.Proofs.YtkhmopmfbocokaaW.PrintLast Go.Proofs.YtkhmopmfbocokaaW.PrintMore
attribute [local go_sem] max2_int max_two
set_option linter.unusedVariables false
set_option linter.unusedSimpArgs false
theorem l6In_eqT (a b c:Int) (r:Bool) (h:decide (b ≤ a∧a ≤ c)=r):spec_l6In.f a b c=some r:=by
 subst h
 unfold spec_l6In.f
 by_cases h:a ≥ b
 ·rw [if_pos h]
  have:(b ≤ a∧a ≤ c)↔a ≤ c:=⟨fun h=>h.2,fun h'=>⟨h,h'⟩⟩
  simp [this]
 ·rw [if_neg h]
  have:¬ (b ≤ a∧a ≤ c):=fun h'=>h h'.1
  simp [this]
theorem l6In_id (a:Int) (r:Bool) (h:decide (0 ≤ a∧a ≤ 254)=r):spec_l6In.f a 0 254=some r:=l6In_eqT a 0 254 r h
def spec_ProducersValid.f (k:Nat) (l0:List S39):Option Bool:=some (prodsAll l0)
set_option maxHeartbeats 8000000 in
set_option maxRecDepth 100000 in
theorem spec_ProducersValid.calls (k:Nat) (A0:Option Addr) (c0:Nat) (l0:List (S39)) (r:Bool) (w:World) (hr0:Kd.C k39 w A0 l0.length l0) (hc0:l0.length ≤ c0) (h:spec_ProducersValid.f k l0=some r) :
  Calls Try.prog 20 #[.slice A0 l0.length c0] w fun e w'=>e = .returned (.bool r)∧Below w.heap.size w w':=by
 obtain rfl:=Option.some.inj h
 clear h
 have hmax:l0.length ≤ 9223372036854775807:=hr0.2.1
 have HR:=Aside0.mk hr0
 have HB:=Aside0.mk (Below.refl w.heap.size w)
 clear hr0
 go_enter Try.func20,Try.ntmps20
 go_wp2
 go_loopw [3,4] (fun i i4 W=>∃ k:Nat,k ≤ l0.length∧i = .int .i64 k∧Aside0 (∀ j,j < k→prodAt l0 j=true)∧Aside0 (Below w.heap.size w W)) (fun i _ _=>l0.length - (intOf i).toNat)
 case atStart=>exact ⟨0,Nat.zero_le _,rfl,⟨fun j hj=>by omega⟩,HB⟩
 case round=>
  clear HB
  obtain ⟨k,hk,rfl,HN,HB⟩:=hrel
  by_cases hlt:k < l0.length
  ·obtain ⟨ad,he,hx0,hx1,hx2⟩:=at_T39 HR.out (k:Int) (by omega) (by omega)
   subst he
   replace hx0:=(HB.out.cell (World.block_lt_of_cell? w _ hx0)).trans hx0
   replace hx1:=(HB.out.cell (World.block_lt_of_cell? w _ hx1)).trans hx1
   replace hx2:=(HB.out.cell (World.block_lt_of_cell? w _ hx2)).trans hx2
   simp only [Int.toNat_natCast] at hx0 hx1 hx2
   have HP:Aside0 (prodAt l0 k=decide (((0 ≤ (rd_T39 l0 (k:Int)).f0∧(rd_T39 l0 (k:Int)).f0 ≤ 254)∧(0 ≤ (rd_T39 l0 (k:Int)).f1∧(rd_T39 l0 (k:Int)).f1 ≤ 99)∧(0 ≤ (rd_T39 l0 (k:Int)).f2∧(rd_T39 l0 (k:Int)).f2 ≤ 99999))∧(0 < k→(rd_T39 l0 ((k:Int) - 1)).f0 < (rd_T39 l0 (k:Int)).f0))):=⟨rfl⟩
   obtain ⟨p,hp⟩:∃ p,p=rd_T39 l0 (k:Int):=⟨_,rfl⟩
   simp only [← hp] at hx0 hx1 hx2
   rw [← hp] at HP
   clear hp
   obtain ⟨x,y,z⟩:=p
   have HNO:=Aside0.mk (fun h=>prodsAll_no (l:=l0) hlt h)
   go_wp2_with ((with_reducible refine gate_dst (N:=4) rfl ?_);refine box_event ?hg (N:=4) ?hd (cs:=#[.int .i64 0,.int .i64 0,.int .i64 0]) (t:=39) ?hr ?_;(case hd=>rfl);(case hg=>rfl);(case hr=>first|(go_simp;done)|(go_simp;rfl));intro gb hg w13 hbox hb;have HB13:=Aside0.mk (below_step HB.out hb);have BK:=Aside0.mk hbox;have GE:=Aside0.mk (show w.heap.size ≤ gb by rw [hg];exact HB.out.size);clear hb hbox hg;have hcz0:=(blk_cell BK.out 0).trans rfl;have hcz1:=(blk_cell BK.out 1).trans rfl;have hcz2:=(blk_cell BK.out 2).trans rfl;have hf0:=blk_frozen BK.out 0;have hf1:=blk_frozen BK.out 1;have hf2:=blk_frozen BK.out 2)
   have BK2:=Aside0.mk (blk_set (blk_set (blk_set BK.out 0 (.int .i64 x)) 1 (.int .i64 y)) 2 (.int .i64 z))
   have HB2:=Aside0.mk (below_set (below_set (below_set HB13.out GE.out (j:=0) (v:=.int .i64 x)) GE.out (j:=1) (v:=.int .i64 y)) GE.out (j:=2) (v:=.int .i64 z))
   clear hcz0 hcz1 hcz2 hf0 hf1 hf2 BK HB13 hx0 hx1 hx2 HB
   generalize ((w13.setCell ⟨gb,0,none⟩ (.int .i64 x)).setCell ⟨gb,1,none⟩ (.int .i64 y)).setCell ⟨gb,2,none⟩ (.int .i64 z)=w14 at BK2 HB2 ⊢
   have d0:w14.cell? ⟨gb,0,none⟩=some (.int .i64 x):=(blk_cell BK2.out 0).trans rfl
   have d1:w14.cell? ⟨gb,1,none⟩=some (.int .i64 y):=(blk_cell BK2.out 1).trans rfl
   have d2:w14.cell? ⟨gb,2,none⟩=some (.int .i64 z):=(blk_cell BK2.out 2).trans rfl
   by_cases k0 : 0 ≤ x∧x ≤ 254
   ·have e0:=l6In_id x true (decide_eq_true k0)
    by_cases k1 : 0 ≤ y∧y ≤ 99
    ·have e1:=l6In_eqT y 0 99 true (decide_eq_true k1)
     by_cases k2 : 0 ≤ z∧z ≤ 99999
     ·have e2:=l6In_eqT z 0 99999 true (decide_eq_true k2)
      by_cases h0 : 0 < k
      ·obtain ⟨ad',he,hy0,_,_⟩:=at_T39 HR.out ((k:Int) - 1) (by omega) (by omega)
       injection he with he
       subst he
       replace hy0:=(HB2.out.cell (World.block_lt_of_cell? w _ hy0)).trans hy0
       rw [show ((k:Int) - 1).toNat=k - 1 by omega] at hy0
       generalize (rd_T39 l0 ((k:Int) - 1)).f0=q at hy0 HP
       have hk0:decide (0 < (k:Int))=true:=decide_eq_true (by omega)
       have hk1:decide (0 < k)=true:=decide_eq_true h0
       have hs1:IntKind.i64.wrap ((k:Int) - 1)=(k:Int) - 1:=IntWalk.i64_in _ (by omega)
       have hs2:((k:Int) - 1).toNat=k - 1:=by omega
       have hs3:(0 ≤ (k:Int) - 1)=True:=eq_true (by omega)
       have hs5:(1 ≤ (k:Int))=True:=eq_true (by omega)
       have hs4:((k:Int) - 1 < (l0.length:Int))=True:=eq_true (by omega)
       by_cases hge:x ≤ q
       ·have hge2:decide (x ≤ q)=true:=decide_eq_true hge
        have HF:=Aside0.mk (HNO.out (by rw [HP.out];exact decide_eq_false (fun h=>by have:=h.2 h0;omega)))
        clear HNO HP k0 k1 k2
        go_quiet ((first|(go_at_call 53;with_reducible exact quiet_drawn (spec_l6In.calls x 0 254 true _ e0))|(go_at_call 53;with_reducible exact quiet_drawn (spec_l6In.calls y 0 99 true _ e1))|(go_at_call 53;with_reducible exact quiet_drawn (spec_l6In.calls z 0 99999 true _ e2))))
        go_wp2
        go_ret
        exact ⟨by rw [HF.out];rfl,pw_below_drewN HB2.out _⟩
       ·have hge2:decide (x ≤ q)=false:=decide_eq_false hge
        have HY:=Aside0.mk (show prodAt l0 k=true by rw [HP.out];exact decide_eq_true ⟨⟨k0,k1,k2⟩,fun _=>by omega⟩)
        clear HNO HP k0 k1 k2
        go_quiet ((first|(go_at_call 53;with_reducible exact quiet_drawn (spec_l6In.calls x 0 254 true _ e0))|(go_at_call 53;with_reducible exact quiet_drawn (spec_l6In.calls y 0 99 true _ e1))|(go_at_call 53;with_reducible exact quiet_drawn (spec_l6In.calls z 0 99999 true _ e2))))
        clear hs1 hs2 hs3 hs4 hs5
        go_wp2
        go_roundw
        case rel=>exact ⟨k+1,by omega,by go_num,⟨fun j hj=>by by_cases e:j=k;(subst e;exact HY.out);exact HN.out j (by omega)⟩,⟨pw_below_drewN HB2.out _⟩⟩
        case measure=>simp [intOf];omega
      ·have hk0:decide (0 < (k:Int))=false:=decide_eq_false (by omega)
       have hk1:decide (0 < k)=false:=decide_eq_false h0
       have HY:=Aside0.mk (show prodAt l0 k=true by rw [HP.out];exact decide_eq_true ⟨⟨k0,k1,k2⟩,fun h=>absurd h h0⟩)
       clear HNO HP k0 k1 k2
       go_quiet ((first|(go_at_call 53;with_reducible exact quiet_drawn (spec_l6In.calls x 0 254 true _ e0))|(go_at_call 53;with_reducible exact quiet_drawn (spec_l6In.calls y 0 99 true _ e1))|(go_at_call 53;with_reducible exact quiet_drawn (spec_l6In.calls z 0 99999 true _ e2))))
       go_wp2
       go_roundw
       case rel=>exact ⟨k+1,by omega,by go_num,⟨fun j hj=>by by_cases e:j=k;(subst e;exact HY.out);exact HN.out j (by omega)⟩,⟨pw_below_drewN HB2.out _⟩⟩
       case measure=>simp [intOf];omega
     ·have e2:=l6In_eqT z 0 99999 false (decide_eq_false k2)
      have HF:=Aside0.mk (HNO.out (by rw [HP.out];exact decide_eq_false (fun h=>k2 h.1.2.2)))
      clear HNO HP k0 k1 k2
      go_quiet ((first|(go_at_call 53;with_reducible exact quiet_drawn (spec_l6In.calls x 0 254 true _ e0))|(go_at_call 53;with_reducible exact quiet_drawn (spec_l6In.calls y 0 99 true _ e1))|(go_at_call 53;with_reducible exact quiet_drawn (spec_l6In.calls z 0 99999 false _ e2))))
      go_wp2
      go_ret
      exact ⟨by rw [HF.out];rfl,pw_below_drewN HB2.out _⟩
    ·have e1:=l6In_eqT y 0 99 false (decide_eq_false k1)
     have HF:=Aside0.mk (HNO.out (by rw [HP.out];exact decide_eq_false (fun h=>k1 h.1.2.1)))
     clear HNO HP k0 k1
     go_quiet ((first|(go_at_call 53;with_reducible exact quiet_drawn (spec_l6In.calls x 0 254 true _ e0))|(go_at_call 53;with_reducible exact quiet_drawn (spec_l6In.calls y 0 99 false _ e1))))
     go_wp2
     go_ret
     exact ⟨by rw [HF.out];rfl,pw_below_drewN HB2.out _⟩
   ·have e0:=l6In_id x false (decide_eq_false k0)
    have HF:=Aside0.mk (HNO.out (by rw [HP.out];exact decide_eq_false (fun h=>k0 h.1.1)))
    clear HNO HP k0
    go_quiet ((go_at_call 53;with_reducible exact quiet_drawn (spec_l6In.calls x 0 254 false _ e0)))
    go_wp2
    go_ret
    exact ⟨by rw [HF.out];rfl,pw_below_drewN HB2.out _⟩
  ·have hk2:k=l0.length:=by omega
   have HA:Aside0 (∀ i,i < l0.length→prodAt l0 i=true):=⟨fun i hi=>HN.out i (by omega)⟩
   by_cases hlen:l0.length ≤ 20
   ·have HF:=Aside0.mk (show prodsAll l0=true by unfold prodsAll;rw [decide_eq_true hlen,Bool.true_and];exact decide_eq_true HA.out)
    have hlen2:decide ((l0.length:Int) ≤ 20)=true:=decide_eq_true (by omega)
    go_wp2
    go_ret
    exact ⟨by rw [HF.out];rfl,HB.out⟩
   ·have HF:=Aside0.mk (prodsAll_long (l:=l0) (by omega))
    have hlen2:decide ((l0.length:Int) ≤ 20)=false:=decide_eq_false (by omega)
    go_wp2
    go_ret
    exact ⟨by rw [HF.out];rfl,HB.out⟩
end Go.Proofs.Ytkhmopmfbocokaa.T
namespace Go.Proofs.Ytkhmopmfbocokaa.T
open Go.RowKit Go.Proofs.YtkhmopmfbocokaaW.PrintWords Go.Proofs.YtkhmopmfbocokaaW.PrintLast Go.Proofs.YtkhmopmfbocokaaW.PrintMore
attribute [local go_sem] max2_int max_two
set_option linter.unusedVariables false
set_option linter.unusedSimpArgs false
def spec_l1Ok.l0:Nat→List Int→Int→Option (Bool)
 | 0,_,_=>none
 | k+1,x0,x3=>if x3 < (x0.length:Int) then (if 0 ≤ x3 then ((spec_l6In.f (rd x0 x3) 0 255).bind fun t379=>(if t379=true then (spec_l1Ok.l0 k x0 (wrap64 (x3+1))) else (some false))) else (none)) else (some true)
def spec_l1Ok.f (k:Nat) (l0:List Int):Option (Bool):=spec_l1Ok.l0 k l0 0
set_option maxHeartbeats 8000000 in
set_option maxRecDepth 100000 in
theorem spec_l1Ok.calls (k:Nat) (A0:Option Addr) (c0:Nat) (l0:List Int) (r:Bool) (w:World) (hr0:Kd.C (Kd.int .i64) w A0 l0.length l0) (hc0:l0.length ≤ c0) (h:spec_l1Ok.f k l0=some r) :
  Calls Try.prog 85 #[.slice A0 l0.length c0] w fun e w'=>e = .returned (.bool r)∧Drawn0 w w':=by
 have HR0:=Aside0.mk hr0
 have HC0:=Aside0.mk hc0
 clear hr0 hc0
 have H:(spec_l1Ok.l0 k l0 0)=some r:=h
 clear h
 have H':=Aside0.mk H
 clear H
 go_enter Try.func85,Try.ntmps85
 go_wp2
 go_loopg [3] k (fun kq v3 w'=>∃ (x3_1:Int),v3 = .int .i64 x3_1∧Aside0 (spec_l1Ok.l0 kq l0 x3_1=some r)∧Aside0 (kq ≤ k)∧Drawn0 w w')
 case atStart=>exact ⟨(0),(by first|rfl|(simp;done)|(simp [*];done)),H',⟨Nat.le_refl _⟩,by repeat (first|exact Drawn0.refl _|apply Drawn0.step)⟩
 case round=>
  clear H'
  obtain ⟨x3_1,rfl,HA,HK1,⟨m1,rfl⟩⟩:=hrel
  cases gk with
  | zero=>exact absurd HA.out (by simp [spec_l1Ok.l0])
  | succ k1=>
   have H:=HA.out
   clear HA
   simp only [spec_l1Ok.l0] at H
   by_cases c2:x3_1 < (l0.length:Int)
   ·rw [if_pos c2] at H
    have c2b0:decide (x3_1 < (l0.length:Int))=true:=decide_eq_true c2
    clear c2
    by_cases c3 : 0 ≤ x3_1
    ·rw [if_pos c3] at H
     have c3b0:decide (0 ≤ x3_1)=true:=decide_eq_true c3
     clear c3
     replace H:=Option.bind_eq_some_iff.mp H
     obtain ⟨t379,A40,H⟩:=H
     replace H:(if t379=true then (spec_l1Ok.l0 k1 l0 (wrap64 (x3_1+1))) else (some false))=some r:=H
     have A4:=Aside0.mk A40
     clear A40
     by_cases c5:t379=true
     ·subst c5
      have H1:(spec_l1Ok.l0 k1 l0 (wrap64 (x3_1+1)))=some r:=by rw [if_pos rfl] at H;exact H
      clear H
      have H:=H1
      clear H1
      have H':=Aside0.mk H
      clear H
      have p378 : 0 ≤ (x3_1:Int):=of_decide_eq_true (by first|(with_reducible assumption)|assumption)
      have q378:x3_1 < (l0.length:Int):=of_decide_eq_true (by first|(with_reducible assumption)|assumption)
      obtain ⟨ad378,e378,hx378_0⟩:=Kd.at_int HR0.out x3_1 p378 q378
      cases e378
      replace p378:=eq_true p378
      replace q378:=eq_true q378
      go_wp2_with (first|((with_reducible refine gate_callee (f:=53) rfl ?_);refine goesL_ (some 14) rfl rfl Try.func53 (by kernel_rfl) rfl #[.int .i64 (rd l0 x3_1),.int .i64 0,.int .i64 255] rfl (by (try simp only [map_toArray,map_cons,map_nil]);first|done|rfl|(simp only [length_drop,length_take];rfl)) ?_;(with_reducible refine (spec_l6In.calls (rd l0 x3_1) 0 255 true _ A4.out).mono ?_);rintro e w' ⟨rfl,⟨nd,rfl⟩⟩;refine ⟨_,rfl,?_⟩))
      go_roundg k1
      case measure=>have:=HK1.out;omega
      case rel=>exact ⟨(wrap64 (x3_1+1)),(by first|rfl|(simp;done)|(simp [*];done)),H',⟨by have:=HK1.out;omega⟩,by repeat (first|exact Drawn0.refl _|apply Drawn0.step)⟩
     ·replace c5:=Bool.eq_false_iff.mpr c5
      subst c5
      have H1:(some false)=some r:=by rw [if_neg (show ¬ (false=true) by decide)] at H;exact H
      clear H
      have H:=H1
      clear H1
      obtain rfl:=Option.some.inj H
      have p378 : 0 ≤ (x3_1:Int):=of_decide_eq_true (by first|(with_reducible assumption)|assumption)
      have q378:x3_1 < (l0.length:Int):=of_decide_eq_true (by first|(with_reducible assumption)|assumption)
      obtain ⟨ad378,e378,hx378_0⟩:=Kd.at_int HR0.out x3_1 p378 q378
      cases e378
      replace p378:=eq_true p378
      replace q378:=eq_true q378
      go_wp2_with (first|((with_reducible refine gate_callee (f:=53) rfl ?_);refine goesL_ (some 14) rfl rfl Try.func53 (by kernel_rfl) rfl #[.int .i64 (rd l0 x3_1),.int .i64 0,.int .i64 255] rfl (by (try simp only [map_toArray,map_cons,map_nil]);first|done|rfl|(simp only [length_drop,length_take];rfl)) ?_;(with_reducible refine (spec_l6In.calls (rd l0 x3_1) 0 255 false _ A4.out).mono ?_);rintro e w' ⟨rfl,⟨nd,rfl⟩⟩;refine ⟨_,rfl,?_⟩))
      go_ret
      exact ⟨by first|rfl|(simp;done)|(simp [*];done),by repeat (first|exact Drawn0.refl _|apply Drawn0.step)⟩
    ·rw [if_neg c3] at H
     exact absurd H (by simp)
   ·rw [if_neg c2] at H
    have c2b0:decide (x3_1 < (l0.length:Int))=false:=decide_eq_false c2
    clear c2
    obtain rfl:=Option.some.inj H
    go_wp2
    go_ret
    exact ⟨by first|rfl|(simp;done)|(simp [*];done),by repeat (first|exact Drawn0.refl _|apply Drawn0.step)⟩
end Go.Proofs.Ytkhmopmfbocokaa.T
namespace Go.Proofs.Ytkhmopmfbocokaa.T
open Go.RowKit Go.Proofs.YtkhmopmfbocokaaW.PrintWords Go.Proofs.YtkhmopmfbocokaaW.PrintLast Go.Proofs.YtkhmopmfbocokaaW.PrintMore
attribute [local go_sem] max2_int max_two
set_option linter.unusedVariables false
set_option linter.unusedSimpArgs false
def spec_l3Part.f (k:Nat) (a0:Bool) (l1:List Int):Option (Bool):=if a0=true then ((spec_l1Ok.f k l1).bind fun t380=>(if t380=true then (some (decide ((l1.length:Int) ≤ 12))) else (some false))) else (if (l1.length:Int)=0 then ((spec_l1Ok.f k l1).bind fun t381=>(if t381=true then (some (decide ((l1.length:Int) ≤ 12))) else (some false))) else (some false))
set_option maxHeartbeats 8000000 in
set_option maxRecDepth 100000 in
theorem spec_l3Part.calls (k:Nat) (a0:Bool) (A1:Option Addr) (c1:Nat) (l1:List Int) (r:Bool) (w:World) (hr1:Kd.C (Kd.int .i64) w A1 l1.length l1) (hc1:l1.length ≤ c1) (h:spec_l3Part.f k a0 l1=some r) :
  Calls Try.prog 83 #[.bool a0,.slice A1 l1.length c1] w fun e w'=>e = .returned (.bool r)∧Drawn0 w w':=by
 have HR1:=Aside0.mk hr1
 have HC1:=Aside0.mk hc1
 clear hr1 hc1
 have H:(if a0=true then ((spec_l1Ok.f k l1).bind fun t380=>(if t380=true then (some (decide ((l1.length:Int) ≤ 12))) else (some false))) else (if (l1.length:Int)=0 then ((spec_l1Ok.f k l1).bind fun t381=>(if t381=true then (some (decide ((l1.length:Int) ≤ 12))) else (some false))) else (some false)))=some r:=h
 clear h
 by_cases c3:a0=true
 ·subst c3
  have H1:((spec_l1Ok.f k l1).bind fun t380=>(if t380=true then (some (decide ((l1.length:Int) ≤ 12))) else (some false)))=some r:=by rw [if_pos rfl] at H;exact H
  clear H
  have H:=H1
  clear H1
  replace H:=Option.bind_eq_some_iff.mp H
  obtain ⟨t380,A40,H⟩:=H
  replace H:(if t380=true then (some (decide ((l1.length:Int) ≤ 12))) else (some false))=some r:=H
  have A4:=Aside0.mk A40
  clear A40
  by_cases c5:t380=true
  ·subst c5
   have H1:(some (decide ((l1.length:Int) ≤ 12)))=some r:=by rw [if_pos rfl] at H;exact H
   clear H
   have H:=H1
   clear H1
   obtain rfl:=Option.some.inj H
   go_enter Try.func83,Try.ntmps83
   go_wp2_with (first|(go_at_call 85;(with_reducible refine (spec_l1Ok.calls k _ _ l1 true _ ?side1 ?side2 A4.out).mono ?_);(case side1=>repeat (first|exact HR1.out|(with_reducible refine Kd.C_alloc ?_ _)|(with_reducible refine Kd.C_drewN ?_ _)|(with_reducible refine Kd.C_drew ?_)));(case side2=>exact HC1.out);rintro e w' ⟨rfl,⟨nd,rfl⟩⟩))
   go_ret
   exact ⟨by first|rfl|(simp;done)|(simp [*];done),by repeat (first|exact Drawn0.refl _|apply Drawn0.step)⟩
  ·replace c5:=Bool.eq_false_iff.mpr c5
   subst c5
   have H1:(some false)=some r:=by rw [if_neg (show ¬ (false=true) by decide)] at H;exact H
   clear H
   have H:=H1
   clear H1
   obtain rfl:=Option.some.inj H
   go_enter Try.func83,Try.ntmps83
   go_wp2_with (first|(go_at_call 85;(with_reducible refine (spec_l1Ok.calls k _ _ l1 false _ ?side1 ?side2 A4.out).mono ?_);(case side1=>repeat (first|exact HR1.out|(with_reducible refine Kd.C_alloc ?_ _)|(with_reducible refine Kd.C_drewN ?_ _)|(with_reducible refine Kd.C_drew ?_)));(case side2=>exact HC1.out);rintro e w' ⟨rfl,⟨nd,rfl⟩⟩))
   go_ret
   exact ⟨by first|rfl|(simp;done)|(simp [*];done),by repeat (first|exact Drawn0.refl _|apply Drawn0.step)⟩
 ·replace c3:=Bool.eq_false_iff.mpr c3
  subst c3
  have H1:(if (l1.length:Int)=0 then ((spec_l1Ok.f k l1).bind fun t381=>(if t381=true then (some (decide ((l1.length:Int) ≤ 12))) else (some false))) else (some false))=some r:=by rw [if_neg (show ¬ (false=true) by decide)] at H;exact H
  clear H
  have H:=H1
  clear H1
  by_cases c6:(l1.length:Int)=0
  ·rw [if_pos c6] at H
   have c6b0:((l1.length:Int) == 0)=true:=beq_iff_eq.mpr c6
   have c6b1:((l1.length:Int) != 0)=false:=bne_eq_false_iff_eq.mpr c6
   clear c6
   replace H:=Option.bind_eq_some_iff.mp H
   obtain ⟨t381,A70,H⟩:=H
   replace H:(if t381=true then (some (decide ((l1.length:Int) ≤ 12))) else (some false))=some r:=H
   have A7:=Aside0.mk A70
   clear A70
   by_cases c8:t381=true
   ·subst c8
    have H1:(some (decide ((l1.length:Int) ≤ 12)))=some r:=by rw [if_pos rfl] at H;exact H
    clear H
    have H:=H1
    clear H1
    obtain rfl:=Option.some.inj H
    go_enter Try.func83,Try.ntmps83
    go_wp2_with (first|(go_at_call 85;(with_reducible refine (spec_l1Ok.calls k _ _ l1 true _ ?side1 ?side2 A7.out).mono ?_);(case side1=>repeat (first|exact HR1.out|(with_reducible refine Kd.C_alloc ?_ _)|(with_reducible refine Kd.C_drewN ?_ _)|(with_reducible refine Kd.C_drew ?_)));(case side2=>exact HC1.out);rintro e w' ⟨rfl,⟨nd,rfl⟩⟩))
    go_ret
    exact ⟨by first|rfl|(simp;done)|(simp [*];done),by repeat (first|exact Drawn0.refl _|apply Drawn0.step)⟩
   ·replace c8:=Bool.eq_false_iff.mpr c8
    subst c8
    have H1:(some false)=some r:=by rw [if_neg (show ¬ (false=true) by decide)] at H;exact H
    clear H
    have H:=H1
    clear H1
    obtain rfl:=Option.some.inj H
    go_enter Try.func83,Try.ntmps83
    go_wp2_with (first|(go_at_call 85;(with_reducible refine (spec_l1Ok.calls k _ _ l1 false _ ?side1 ?side2 A7.out).mono ?_);(case side1=>repeat (first|exact HR1.out|(with_reducible refine Kd.C_alloc ?_ _)|(with_reducible refine Kd.C_drewN ?_ _)|(with_reducible refine Kd.C_drew ?_)));(case side2=>exact HC1.out);rintro e w' ⟨rfl,⟨nd,rfl⟩⟩))
    go_ret
    exact ⟨by first|rfl|(simp;done)|(simp [*];done),by repeat (first|exact Drawn0.refl _|apply Drawn0.step)⟩
  ·rw [if_neg c6] at H
   have c6b0:((l1.length:Int) == 0)=false:=beq_eq_false_iff_ne.mpr c6
   have c6b1:((l1.length:Int) != 0)=true:=bne_iff_ne.mpr c6
   have c6b2:¬ (l1 = []):=fun h_=>c6 (by rw [h_];rfl)
   obtain rfl:=Option.some.inj H
   go_enter Try.func83,Try.ntmps83
   go_wp2
   go_ret
   exact ⟨by first|rfl|(simp;done)|(simp [*];done),by repeat (first|exact Drawn0.refl _|apply Drawn0.step)⟩
end Go.Proofs.Ytkhmopmfbocokaa.T
namespace Go.Proofs.Ytkhmopmfbocokaa.T
open Go.RowKit Go.Proofs.YtkhmopmfbocokaaW.PrintWords Go.Proofs.YtkhmopmfbocokaaW.PrintLast Go.Proofs.YtkhmopmfbocokaaW.PrintMore
attribute [local go_sem] max2_int max_two
set_option linter.unusedVariables false
set_option linter.unusedSimpArgs false
def spec_RecordValid.f (k:Nat) (a0_0:Int) (a0_1:Int) (a0_2:Bool) (l0_3:List Int) (a0_4:Bool) (l0_5:List Int):Option (Bool):=(spec_l6In.f a0_0 0 99999).bind fun t383=>(if t383=true then ((spec_l6In.f a0_1 0 99999).bind fun t384=>(if t384=true then ((spec_l3Part.f k a0_2 l0_3).bind fun t385=>(if t385=true then ((spec_l3Part.f k a0_4 l0_5).bind fun t386=>(some t386)) else (some false))) else (some false))) else (some false))
set_option maxHeartbeats 8000000 in
set_option maxRecDepth 100000 in
theorem spec_RecordValid.calls (k:Nat) (a0_0:Int) (a0_1:Int) (a0_2:Bool) (A0_3:Option Addr) (c0_3:Nat) (l0_3:List Int) (a0_4:Bool) (A0_5:Option Addr) (c0_5:Nat) (l0_5:List Int) (r:Bool) (w:World) (hr0_3:Kd.C (Kd.int .i64) w A0_3 l0_3.length l0_3) (hc0_3:l0_3.length ≤ c0_3) (hr0_5:Kd.C (Kd.int .i64) w A0_5 l0_5.length l0_5) (hc0_5:l0_5.length ≤ c0_5) (h:spec_RecordValid.f k a0_0 a0_1 a0_2 l0_3 a0_4 l0_5=some r) :
  Calls Try.prog 78 #[.agg #[.int .i64 a0_0,.int .i64 a0_1,.bool a0_2,.slice A0_3 l0_3.length c0_3,.bool a0_4,.slice A0_5 l0_5.length c0_5]] w fun e w'=>e = .returned (.bool r)∧Below w.heap.size w w':=by
 have hu79:=Try.underlying79
 have HR0_3:=Aside0.mk hr0_3
 have HC0_3:=Aside0.mk hc0_3
 clear hr0_3 hc0_3
 have HR0_5:=Aside0.mk hr0_5
 have HC0_5:=Aside0.mk hc0_5
 clear hr0_5 hc0_5
 have HB:=Aside0.mk (Below.refl w.heap.size w)
 have H:((spec_l6In.f a0_0 0 99999).bind fun t383=>(if t383=true then ((spec_l6In.f a0_1 0 99999).bind fun t384=>(if t384=true then ((spec_l3Part.f k a0_2 l0_3).bind fun t385=>(if t385=true then ((spec_l3Part.f k a0_4 l0_5).bind fun t386=>(some t386)) else (some false))) else (some false))) else (some false)))=some r:=h
 clear h
 replace H:=Option.bind_eq_some_iff.mp H
 obtain ⟨t383,A20,H⟩:=H
 replace H:(if t383=true then ((spec_l6In.f a0_1 0 99999).bind fun t384=>(if t384=true then ((spec_l3Part.f k a0_2 l0_3).bind fun t385=>(if t385=true then ((spec_l3Part.f k a0_4 l0_5).bind fun t386=>(some t386)) else (some false))) else (some false))) else (some false))=some r:=H
 have A2:=Aside0.mk A20
 clear A20
 by_cases c3:t383=true
 ·subst c3
  have H1:((spec_l6In.f a0_1 0 99999).bind fun t384=>(if t384=true then ((spec_l3Part.f k a0_2 l0_3).bind fun t385=>(if t385=true then ((spec_l3Part.f k a0_4 l0_5).bind fun t386=>(some t386)) else (some false))) else (some false)))=some r:=by rw [if_pos rfl] at H;exact H
  clear H
  have H:=H1
  clear H1
  replace H:=Option.bind_eq_some_iff.mp H
  obtain ⟨t384,A40,H⟩:=H
  replace H:(if t384=true then ((spec_l3Part.f k a0_2 l0_3).bind fun t385=>(if t385=true then ((spec_l3Part.f k a0_4 l0_5).bind fun t386=>(some t386)) else (some false))) else (some false))=some r:=H
  have A4:=Aside0.mk A40
  clear A40
  by_cases c5:t384=true
  ·subst c5
   have H1:((spec_l3Part.f k a0_2 l0_3).bind fun t385=>(if t385=true then ((spec_l3Part.f k a0_4 l0_5).bind fun t386=>(some t386)) else (some false)))=some r:=by rw [if_pos rfl] at H;exact H
   clear H
   have H:=H1
   clear H1
   replace H:=Option.bind_eq_some_iff.mp H
   obtain ⟨t385,A60,H⟩:=H
   replace H:(if t385=true then ((spec_l3Part.f k a0_4 l0_5).bind fun t386=>(some t386)) else (some false))=some r:=H
   have A6:=Aside0.mk A60
   clear A60
   by_cases c7:t385=true
   ·subst c7
    have H1:((spec_l3Part.f k a0_4 l0_5).bind fun t386=>(some t386))=some r:=by rw [if_pos rfl] at H;exact H
    clear H
    have H:=H1
    clear H1
    replace H:=Option.bind_eq_some_iff.mp H
    obtain ⟨t386,A80,H⟩:=H
    replace H:(some t386)=some r:=H
    have A8:=Aside0.mk A80
    clear A80
    obtain rfl:=Option.some.inj H
    go_enter Try.func78,Try.ntmps78
    go_wp2_with (first|((with_reducible refine gate_dst (N:=1) rfl ?_);refine box_event ?hg (N:=1) ?hd (cs:=#[.int .i64 a0_0,.int .i64 a0_1,.bool a0_2,.slice A0_3 l0_3.length c0_3,.bool a0_4,.slice A0_5 l0_5.length c0_5]) (t:=79) ?hr ?_;(case hd=>rfl);(case hg=>rfl);(case hr=>first|(go_simp;done)|(go_simp;rfl));intro gb382 hg w9 hbox hb;have n0_:=Aside0.mk (below_step (by repeat (first|(with_reducible first|exact HB.out|apply below_alloc|apply pw_below_drewN|apply below_drew1)|exact HB.out)) hb);have n1_:=Aside0.mk (hbox);have n2_:=Aside0.mk ((by rw [hg];exact (below_size (by repeat (first|(with_reducible first|exact HB.out|apply below_alloc|apply pw_below_drewN|apply below_drew1)|exact HB.out))):w.heap.size ≤ gb382));have n3_:=Aside0.mk ((by rw [hg];exact (below_size (by repeat (first|(with_reducible first|exact HB.out|apply below_alloc|apply pw_below_drewN|apply below_drew1)|exact HB.out))):w.heap.size ≤ gb382));clear HB;have HB:=n0_;have BK382:=n1_;have GW382:=n2_;have GE382:=n3_;clear n0_ n1_ n2_ n3_;clear hb hbox hg;have hcz10_0:w9.cell? ⟨gb382,0,none⟩=some (.int .i64 a0_0):=(blk_cell BK382.out 0).trans rfl;have hcz10_1:w9.cell? ⟨gb382,1,none⟩=some (.int .i64 a0_1):=(blk_cell BK382.out 1).trans rfl;have hcz10_2:w9.cell? ⟨gb382,2,none⟩=some (.bool a0_2):=(blk_cell BK382.out 2).trans rfl;have hcz10_3:w9.cell? ⟨gb382,3,none⟩=some (.slice A0_3 l0_3.length c0_3):=(blk_cell BK382.out 3).trans rfl;have hcz10_4:w9.cell? ⟨gb382,4,none⟩=some (.bool a0_4):=(blk_cell BK382.out 4).trans rfl;have hcz10_5:w9.cell? ⟨gb382,5,none⟩=some (.slice A0_5 l0_5.length c0_5):=(blk_cell BK382.out 5).trans rfl;have hfz10_0:=blk_frozen BK382.out 0;have hfz10_1:=blk_frozen BK382.out 1;have hfz10_2:=blk_frozen BK382.out 2;have hfz10_3:=blk_frozen BK382.out 3;have hfz10_4:=blk_frozen BK382.out 4;have hfz10_5:=blk_frozen BK382.out 5)|((with_reducible refine gate_callee (f:=53) rfl ?_);refine goesL_ (some 5) rfl rfl Try.func53 (by kernel_rfl) rfl #[.int .i64 a0_0,.int .i64 0,.int .i64 99999] rfl (by (try simp only [map_toArray,map_cons,map_nil]);first|done|rfl|(simp only [length_drop,length_take];rfl)) ?_;(with_reducible refine (spec_l6In.calls a0_0 0 99999 true _ A2.out).mono ?_);rintro e w' ⟨rfl,⟨nd,rfl⟩⟩;refine ⟨_,rfl,?_⟩)|(go_at_call 53;(with_reducible refine (spec_l6In.calls a0_1 0 99999 true _ A4.out).mono ?_);rintro e w' ⟨rfl,⟨nd,rfl⟩⟩)|(go_at_call 83;(with_reducible refine (spec_l3Part.calls k a0_2 _ _ l0_3 true _ ?side1 ?side2 A6.out).mono ?_);(case side1=>repeat (first|exact (Kd.C_below HR0_3.out (by repeat (first|(with_reducible first|exact HB.out|apply below_alloc|apply pw_below_drewN|apply below_drew1|refine below_set ?_ GE382.out)|exact HB.out)))|(with_reducible refine Kd.C_alloc ?_ _)|(with_reducible refine Kd.C_drewN ?_ _)|(with_reducible refine Kd.C_drew ?_)));(case side2=>exact HC0_3.out);rintro e w' ⟨rfl,⟨nd,rfl⟩⟩)|(go_at_call 83;(with_reducible refine (spec_l3Part.calls k a0_4 _ _ l0_5 t386 _ ?side1 ?side2 A8.out).mono ?_);(case side1=>repeat (first|exact (Kd.C_below HR0_5.out (by repeat (first|(with_reducible first|exact HB.out|apply below_alloc|apply pw_below_drewN|apply below_drew1|refine below_set ?_ GE382.out)|exact HB.out)))|(with_reducible refine Kd.C_alloc ?_ _)|(with_reducible refine Kd.C_drewN ?_ _)|(with_reducible refine Kd.C_drew ?_)));(case side2=>exact HC0_5.out);rintro e w' ⟨rfl,⟨nd,rfl⟩⟩))
    go_ret
    exact ⟨by first|rfl|(simp [errW_none,errW_some] <;> rfl)|(simp [*,errW_none,errW_some] <;> rfl),by repeat (first|(with_reducible first|exact HB.out|apply below_alloc|apply pw_below_drewN|apply below_drew1|refine below_set ?_ GE382.out)|exact HB.out)⟩
   ·replace c7:=Bool.eq_false_iff.mpr c7
    subst c7
    have H1:(some false)=some r:=by rw [if_neg (show ¬ (false=true) by decide)] at H;exact H
    clear H
    have H:=H1
    clear H1
    obtain rfl:=Option.some.inj H
    go_enter Try.func78,Try.ntmps78
    go_wp2_with (first|((with_reducible refine gate_dst (N:=1) rfl ?_);refine box_event ?hg (N:=1) ?hd (cs:=#[.int .i64 a0_0,.int .i64 a0_1,.bool a0_2,.slice A0_3 l0_3.length c0_3,.bool a0_4,.slice A0_5 l0_5.length c0_5]) (t:=79) ?hr ?_;(case hd=>rfl);(case hg=>rfl);(case hr=>first|(go_simp;done)|(go_simp;rfl));intro gb382 hg w11 hbox hb;have n0_:=Aside0.mk (below_step (by repeat (first|(with_reducible first|exact HB.out|apply below_alloc|apply pw_below_drewN|apply below_drew1)|exact HB.out)) hb);have n1_:=Aside0.mk (hbox);have n2_:=Aside0.mk ((by rw [hg];exact (below_size (by repeat (first|(with_reducible first|exact HB.out|apply below_alloc|apply pw_below_drewN|apply below_drew1)|exact HB.out))):w.heap.size ≤ gb382));have n3_:=Aside0.mk ((by rw [hg];exact (below_size (by repeat (first|(with_reducible first|exact HB.out|apply below_alloc|apply pw_below_drewN|apply below_drew1)|exact HB.out))):w.heap.size ≤ gb382));clear HB;have HB:=n0_;have BK382:=n1_;have GW382:=n2_;have GE382:=n3_;clear n0_ n1_ n2_ n3_;clear hb hbox hg;have hcz12_0:w11.cell? ⟨gb382,0,none⟩=some (.int .i64 a0_0):=(blk_cell BK382.out 0).trans rfl;have hcz12_1:w11.cell? ⟨gb382,1,none⟩=some (.int .i64 a0_1):=(blk_cell BK382.out 1).trans rfl;have hcz12_2:w11.cell? ⟨gb382,2,none⟩=some (.bool a0_2):=(blk_cell BK382.out 2).trans rfl;have hcz12_3:w11.cell? ⟨gb382,3,none⟩=some (.slice A0_3 l0_3.length c0_3):=(blk_cell BK382.out 3).trans rfl;have hcz12_4:w11.cell? ⟨gb382,4,none⟩=some (.bool a0_4):=(blk_cell BK382.out 4).trans rfl;have hcz12_5:w11.cell? ⟨gb382,5,none⟩=some (.slice A0_5 l0_5.length c0_5):=(blk_cell BK382.out 5).trans rfl;have hfz12_0:=blk_frozen BK382.out 0;have hfz12_1:=blk_frozen BK382.out 1;have hfz12_2:=blk_frozen BK382.out 2;have hfz12_3:=blk_frozen BK382.out 3;have hfz12_4:=blk_frozen BK382.out 4;have hfz12_5:=blk_frozen BK382.out 5)|((with_reducible refine gate_callee (f:=53) rfl ?_);refine goesL_ (some 5) rfl rfl Try.func53 (by kernel_rfl) rfl #[.int .i64 a0_0,.int .i64 0,.int .i64 99999] rfl (by (try simp only [map_toArray,map_cons,map_nil]);first|done|rfl|(simp only [length_drop,length_take];rfl)) ?_;(with_reducible refine (spec_l6In.calls a0_0 0 99999 true _ A2.out).mono ?_);rintro e w' ⟨rfl,⟨nd,rfl⟩⟩;refine ⟨_,rfl,?_⟩)|(go_at_call 53;(with_reducible refine (spec_l6In.calls a0_1 0 99999 true _ A4.out).mono ?_);rintro e w' ⟨rfl,⟨nd,rfl⟩⟩)|(go_at_call 83;(with_reducible refine (spec_l3Part.calls k a0_2 _ _ l0_3 false _ ?side1 ?side2 A6.out).mono ?_);(case side1=>repeat (first|exact (Kd.C_below HR0_3.out (by repeat (first|(with_reducible first|exact HB.out|apply below_alloc|apply pw_below_drewN|apply below_drew1|refine below_set ?_ GE382.out)|exact HB.out)))|(with_reducible refine Kd.C_alloc ?_ _)|(with_reducible refine Kd.C_drewN ?_ _)|(with_reducible refine Kd.C_drew ?_)));(case side2=>exact HC0_3.out);rintro e w' ⟨rfl,⟨nd,rfl⟩⟩))
    go_ret
    exact ⟨by first|rfl|(simp [errW_none,errW_some] <;> rfl)|(simp [*,errW_none,errW_some] <;> rfl),by repeat (first|(with_reducible first|exact HB.out|apply below_alloc|apply pw_below_drewN|apply below_drew1|refine below_set ?_ GE382.out)|exact HB.out)⟩
  ·replace c5:=Bool.eq_false_iff.mpr c5
   subst c5
   have H1:(some false)=some r:=by rw [if_neg (show ¬ (false=true) by decide)] at H;exact H
   clear H
   have H:=H1
   clear H1
   obtain rfl:=Option.some.inj H
   go_enter Try.func78,Try.ntmps78
   go_wp2_with (first|((with_reducible refine gate_dst (N:=1) rfl ?_);refine box_event ?hg (N:=1) ?hd (cs:=#[.int .i64 a0_0,.int .i64 a0_1,.bool a0_2,.slice A0_3 l0_3.length c0_3,.bool a0_4,.slice A0_5 l0_5.length c0_5]) (t:=79) ?hr ?_;(case hd=>rfl);(case hg=>rfl);(case hr=>first|(go_simp;done)|(go_simp;rfl));intro gb382 hg w13 hbox hb;have n0_:=Aside0.mk (below_step (by repeat (first|(with_reducible first|exact HB.out|apply below_alloc|apply pw_below_drewN|apply below_drew1)|exact HB.out)) hb);have n1_:=Aside0.mk (hbox);have n2_:=Aside0.mk ((by rw [hg];exact (below_size (by repeat (first|(with_reducible first|exact HB.out|apply below_alloc|apply pw_below_drewN|apply below_drew1)|exact HB.out))):w.heap.size ≤ gb382));have n3_:=Aside0.mk ((by rw [hg];exact (below_size (by repeat (first|(with_reducible first|exact HB.out|apply below_alloc|apply pw_below_drewN|apply below_drew1)|exact HB.out))):w.heap.size ≤ gb382));clear HB;have HB:=n0_;have BK382:=n1_;have GW382:=n2_;have GE382:=n3_;clear n0_ n1_ n2_ n3_;clear hb hbox hg;have hcz14_0:w13.cell? ⟨gb382,0,none⟩=some (.int .i64 a0_0):=(blk_cell BK382.out 0).trans rfl;have hcz14_1:w13.cell? ⟨gb382,1,none⟩=some (.int .i64 a0_1):=(blk_cell BK382.out 1).trans rfl;have hcz14_2:w13.cell? ⟨gb382,2,none⟩=some (.bool a0_2):=(blk_cell BK382.out 2).trans rfl;have hcz14_3:w13.cell? ⟨gb382,3,none⟩=some (.slice A0_3 l0_3.length c0_3):=(blk_cell BK382.out 3).trans rfl;have hcz14_4:w13.cell? ⟨gb382,4,none⟩=some (.bool a0_4):=(blk_cell BK382.out 4).trans rfl;have hcz14_5:w13.cell? ⟨gb382,5,none⟩=some (.slice A0_5 l0_5.length c0_5):=(blk_cell BK382.out 5).trans rfl;have hfz14_0:=blk_frozen BK382.out 0;have hfz14_1:=blk_frozen BK382.out 1;have hfz14_2:=blk_frozen BK382.out 2;have hfz14_3:=blk_frozen BK382.out 3;have hfz14_4:=blk_frozen BK382.out 4;have hfz14_5:=blk_frozen BK382.out 5)|((with_reducible refine gate_callee (f:=53) rfl ?_);refine goesL_ (some 5) rfl rfl Try.func53 (by kernel_rfl) rfl #[.int .i64 a0_0,.int .i64 0,.int .i64 99999] rfl (by (try simp only [map_toArray,map_cons,map_nil]);first|done|rfl|(simp only [length_drop,length_take];rfl)) ?_;(with_reducible refine (spec_l6In.calls a0_0 0 99999 true _ A2.out).mono ?_);rintro e w' ⟨rfl,⟨nd,rfl⟩⟩;refine ⟨_,rfl,?_⟩)|(go_at_call 53;(with_reducible refine (spec_l6In.calls a0_1 0 99999 false _ A4.out).mono ?_);rintro e w' ⟨rfl,⟨nd,rfl⟩⟩))
   go_ret
   exact ⟨by first|rfl|(simp [errW_none,errW_some] <;> rfl)|(simp [*,errW_none,errW_some] <;> rfl),by repeat (first|(with_reducible first|exact HB.out|apply below_alloc|apply pw_below_drewN|apply below_drew1|refine below_set ?_ GE382.out)|exact HB.out)⟩
 ·replace c3:=Bool.eq_false_iff.mpr c3
  subst c3
  have H1:(some false)=some r:=by rw [if_neg (show ¬ (false=true) by decide)] at H;exact H
  clear H
  have H:=H1
  clear H1
  obtain rfl:=Option.some.inj H
  go_enter Try.func78,Try.ntmps78
  go_wp2_with (first|((with_reducible refine gate_dst (N:=1) rfl ?_);refine box_event ?hg (N:=1) ?hd (cs:=#[.int .i64 a0_0,.int .i64 a0_1,.bool a0_2,.slice A0_3 l0_3.length c0_3,.bool a0_4,.slice A0_5 l0_5.length c0_5]) (t:=79) ?hr ?_;(case hd=>rfl);(case hg=>rfl);(case hr=>first|(go_simp;done)|(go_simp;rfl));intro gb382 hg w15 hbox hb;have n0_:=Aside0.mk (below_step (by repeat (first|(with_reducible first|exact HB.out|apply below_alloc|apply pw_below_drewN|apply below_drew1)|exact HB.out)) hb);have n1_:=Aside0.mk (hbox);have n2_:=Aside0.mk ((by rw [hg];exact (below_size (by repeat (first|(with_reducible first|exact HB.out|apply below_alloc|apply pw_below_drewN|apply below_drew1)|exact HB.out))):w.heap.size ≤ gb382));have n3_:=Aside0.mk ((by rw [hg];exact (below_size (by repeat (first|(with_reducible first|exact HB.out|apply below_alloc|apply pw_below_drewN|apply below_drew1)|exact HB.out))):w.heap.size ≤ gb382));clear HB;have HB:=n0_;have BK382:=n1_;have GW382:=n2_;have GE382:=n3_;clear n0_ n1_ n2_ n3_;clear hb hbox hg;have hcz16_0:w15.cell? ⟨gb382,0,none⟩=some (.int .i64 a0_0):=(blk_cell BK382.out 0).trans rfl;have hcz16_1:w15.cell? ⟨gb382,1,none⟩=some (.int .i64 a0_1):=(blk_cell BK382.out 1).trans rfl;have hcz16_2:w15.cell? ⟨gb382,2,none⟩=some (.bool a0_2):=(blk_cell BK382.out 2).trans rfl;have hcz16_3:w15.cell? ⟨gb382,3,none⟩=some (.slice A0_3 l0_3.length c0_3):=(blk_cell BK382.out 3).trans rfl;have hcz16_4:w15.cell? ⟨gb382,4,none⟩=some (.bool a0_4):=(blk_cell BK382.out 4).trans rfl;have hcz16_5:w15.cell? ⟨gb382,5,none⟩=some (.slice A0_5 l0_5.length c0_5):=(blk_cell BK382.out 5).trans rfl;have hfz16_0:=blk_frozen BK382.out 0;have hfz16_1:=blk_frozen BK382.out 1;have hfz16_2:=blk_frozen BK382.out 2;have hfz16_3:=blk_frozen BK382.out 3;have hfz16_4:=blk_frozen BK382.out 4;have hfz16_5:=blk_frozen BK382.out 5)|((with_reducible refine gate_callee (f:=53) rfl ?_);refine goesL_ (some 5) rfl rfl Try.func53 (by kernel_rfl) rfl #[.int .i64 a0_0,.int .i64 0,.int .i64 99999] rfl (by (try simp only [map_toArray,map_cons,map_nil]);first|done|rfl|(simp only [length_drop,length_take];rfl)) ?_;(with_reducible refine (spec_l6In.calls a0_0 0 99999 false _ A2.out).mono ?_);rintro e w' ⟨rfl,⟨nd,rfl⟩⟩;refine ⟨_,rfl,?_⟩))
  go_ret
  exact ⟨by first|rfl|(simp [errW_none,errW_some] <;> rfl)|(simp [*,errW_none,errW_some] <;> rfl),by repeat (first|(with_reducible first|exact HB.out|apply below_alloc|apply pw_below_drewN|apply below_drew1|refine below_set ?_ GE382.out)|exact HB.out)⟩
end Go.Proofs.Ytkhmopmfbocokaa.T
namespace Go.Proofs.Ytkhmopmfbocokaa.T
open Go.RowKit Go.Proofs.YtkhmopmfbocokaaW.PrintWords Go.Proofs.YtkhmopmfbocokaaW.PrintLast Go.Proofs.YtkhmopmfbocokaaW.PrintMore
attribute [local go_sem] max2_int max_two
set_option linter.unusedVariables false
set_option linter.unusedSimpArgs false
def spec_l5Records.l0:Nat→List (S79)→Int→Option (Bool)
 | 0,_,_=>none
 | k+1,x0,x3=>if x3 < (x0.length:Int) then (if 0 ≤ x3 then ((spec_RecordValid.f k ((rd_T79 x0 x3).f0) ((rd_T79 x0 x3).f1) ((rd_T79 x0 x3).f2) ((rd_T79 x0 x3).f3) ((rd_T79 x0 x3).f4) ((rd_T79 x0 x3).f5)).bind fun t388=>(if t388=true then (if x3 > 0 then (if 0 ≤ (wrap64 (x3 - 1)) then (if (wrap64 (x3 - 1)) < (x0.length:Int) then (if ((rd_T79 x0 (wrap64 (x3 - 1))).f0) ≥ ((rd_T79 x0 x3).f0) then (some false) else (spec_l5Records.l0 k x0 (wrap64 (x3+1)))) else (none)) else (none)) else (spec_l5Records.l0 k x0 (wrap64 (x3+1)))) else (some false))) else (none)) else ((spec_l6In.f (x0.length:Int) 1 6).bind fun t391=>(some t391))
def spec_l5Records.f (k:Nat) (l0:List (S79)):Option (Bool):=spec_l5Records.l0 k l0 0
def spec_l5Records.T4:Bool × List (List Nat × List Nat):=(true,[([],[]),([],[]),([0,1],[0,1]),([2],[2]),([3],[3]),([4],[4]),([5,4],[5]),([6],[6]),([7,6],[6,7]),([8,6,6],[6,8]),([9],[9]),([9],[9]),([11,9],[9,11]),([10,12,9],[9,10,12]),([13,9],[9,13]),([14,9],[9,14]),([9],[9]),([9],[9]),([16,17,9],[9,16,17]),([18,9],[9,18]),([19,9],[9,19]),([15,20,9],[9,15,20]),([9,21,6],[6,9,21]),([6,22],[6,22])])
def spec_l5Records.B4:List Nat:=[0,0,3,7,15,31,63,127,255,511,1023,1023,3071,8191,16383,32767,1023,1023,197631,459775,984063,2097151,4194303,8388607]
theorem spec_l5Records.tab4:rtab .any (opsOf Try.f70 4)=spec_l5Records.T4:=by kernel_rfl
theorem spec_l5Records.bits4:waitsOk spec_l5Records.T4.2 spec_l5Records.B4=true:=by kernel_rfl
set_option maxHeartbeats 8000000 in
set_option maxRecDepth 100000 in
theorem spec_l5Records.calls (k:Nat) (A0:Option Addr) (c0:Nat) (l0:List (S79)) (r:Bool) (w:World) (hr0:Kd.C k79 w A0 l0.length l0) (hc0:l0.length ≤ c0) (h:spec_l5Records.f k l0=some r) :
  Calls Try.prog 70 #[.slice A0 l0.length c0] w fun e w'=>e = .returned (.bool r)∧Below w.heap.size w w':=by
 have hu79:=Try.underlying79
 have HR0:=Aside0.mk hr0
 have HC0:=Aside0.mk hc0
 clear hr0 hc0
 have HB:=Aside0.mk (Below.refl w.heap.size w)
 have H:(spec_l5Records.l0 k l0 0)=some r:=h
 clear h
 have H':=Aside0.mk H
 clear H
 go_enter Try.func70,Try.ntmps70
 go_wp2
 go_loopg [3] k (fun kq v3 w'=>∃ (x3_1:Int),v3 = .int .i64 x3_1∧Aside0 (spec_l5Records.l0 kq l0 x3_1=some r)∧Aside0 (kq ≤ k)∧Aside0 (Below w.heap.size w w'))
 case atStart=>exact ⟨(0),(by first|rfl|(simp;done)|(simp [*];done)),H',⟨Nat.le_refl _⟩,⟨by repeat (first|(with_reducible first|exact HB.out|apply below_alloc|apply pw_below_drewN|apply below_drew1)|exact HB.out)⟩⟩
 case round=>
  clear H'
  obtain ⟨x3_1,rfl,HA,HK1,HB⟩:=hrel
  cases gk with
  | zero=>exact absurd HA.out (by simp [spec_l5Records.l0])
  | succ k1=>
   have H:=HA.out
   clear HA
   simp only [spec_l5Records.l0] at H
   by_cases c2:x3_1 < (l0.length:Int)
   ·rw [if_pos c2] at H
    have c2b0:decide (x3_1 < (l0.length:Int))=true:=decide_eq_true c2
    clear c2
    by_cases c3 : 0 ≤ x3_1
    ·rw [if_pos c3] at H
     have c3b0:decide (0 ≤ x3_1)=true:=decide_eq_true c3
     clear c3
     replace H:=Option.bind_eq_some_iff.mp H
     obtain ⟨t388,A40,H⟩:=H
     replace H:(if t388=true then (if x3_1 > 0 then (if 0 ≤ (wrap64 (x3_1 - 1)) then (if (wrap64 (x3_1 - 1)) < (l0.length:Int) then (if ((rd_T79 l0 (wrap64 (x3_1 - 1))).f0) ≥ ((rd_T79 l0 x3_1).f0) then (some false) else (spec_l5Records.l0 k1 l0 (wrap64 (x3_1+1)))) else (none)) else (none)) else (spec_l5Records.l0 k1 l0 (wrap64 (x3_1+1)))) else (some false))=some r:=H
     have A4:=Aside0.mk A40
     clear A40
     by_cases c5:t388=true
     ·subst c5
      have H1:(if x3_1 > 0 then (if 0 ≤ (wrap64 (x3_1 - 1)) then (if (wrap64 (x3_1 - 1)) < (l0.length:Int) then (if ((rd_T79 l0 (wrap64 (x3_1 - 1))).f0) ≥ ((rd_T79 l0 x3_1).f0) then (some false) else (spec_l5Records.l0 k1 l0 (wrap64 (x3_1+1)))) else (none)) else (none)) else (spec_l5Records.l0 k1 l0 (wrap64 (x3_1+1))))=some r:=by rw [if_pos rfl] at H;exact H
      clear H
      have H:=H1
      clear H1
      by_cases c6:x3_1 > 0
      ·rw [if_pos c6] at H
       have c6b0:decide (0 < x3_1)=true:=decide_eq_true c6
       clear c6
       obtain ⟨ji7,hji7⟩:∃ j_:Int,(wrap64 (x3_1 - 1))=j_:=⟨_,rfl⟩
       replace H:(if 0 ≤ (ji7) then (if (ji7) < (l0.length:Int) then (if ((rd_T79 l0 (ji7)).f0) ≥ ((rd_T79 l0 x3_1).f0) then (some false) else (spec_l5Records.l0 k1 l0 (wrap64 (x3_1+1)))) else (none)) else (none))=some r:=by first|(rw [hji7] at H;exact H)|(simp only [hji7] at H ⊢;exact H)
       (try rw [hji7] at A4)
       have hji7w:(IntKind.i64.wrap (x3_1 - 1))=ji7:=(i64_w _).trans hji7
       by_cases c8 : 0 ≤ (ji7)
       ·rw [if_pos c8] at H
        have c8b0:decide (0 ≤ (ji7))=true:=decide_eq_true c8
        clear c8
        by_cases c9:(ji7) < (l0.length:Int)
        ·rw [if_pos c9] at H
         have c9b0:decide ((ji7) < (l0.length:Int))=true:=decide_eq_true c9
         clear c9
         by_cases c10:((rd_T79 l0 (ji7)).f0) ≥ ((rd_T79 l0 x3_1).f0)
         ·rw [if_pos c10] at H
          have c10b0:decide (((rd_T79 l0 x3_1).f0) ≤ ((rd_T79 l0 (ji7)).f0))=true:=decide_eq_true c10
          clear c10
          obtain rfl:=Option.some.inj H
          try go_wp2
          have n0_:=Aside0.mk (below_drew1 HB.out)
          clear HB
          have HB:=n0_
          clear n0_
          have p387 : 0 ≤ (x3_1:Int):=of_decide_eq_true (by first|(with_reducible assumption)|assumption)
          have q387:x3_1 < (l0.length:Int):=of_decide_eq_true (by first|(with_reducible assumption)|assumption)
          obtain ⟨ad387,A387_3,c387_3,A387_5,c387_5,e387,hx387_0,hx387_1,hx387_2,hx387_3,hx387_4,hx387_5,hl387_3,hi387_3,hl387_5,hi387_5⟩:=at_T79 HR0.out x3_1 p387 q387
          have hw387_5:=hx387_5
          have hw387_4:=hx387_4
          have hw387_3:=hx387_3
          have hw387_2:=hx387_2
          have hw387_1:=hx387_1
          have hw387_0:=hx387_0
          cases e387
          replace hx387_0:=(HB.out.cell (World.block_lt_of_cell? w _ hx387_0)).trans hx387_0
          replace hx387_1:=(HB.out.cell (World.block_lt_of_cell? w _ hx387_1)).trans hx387_1
          replace hx387_2:=(HB.out.cell (World.block_lt_of_cell? w _ hx387_2)).trans hx387_2
          replace hx387_3:=(HB.out.cell (World.block_lt_of_cell? w _ hx387_3)).trans hx387_3
          replace hx387_4:=(HB.out.cell (World.block_lt_of_cell? w _ hx387_4)).trans hx387_4
          replace hx387_5:=(HB.out.cell (World.block_lt_of_cell? w _ hx387_5)).trans hx387_5
          have HR387_3:=Aside0.mk hi387_3
          have HC387_3:=Aside0.mk hl387_3
          clear hi387_3 hl387_3
          have HR387_5:=Aside0.mk hi387_5
          have HC387_5:=Aside0.mk hl387_5
          clear hi387_5 hl387_5
          replace p387:=eq_true p387
          replace q387:=eq_true q387
          have p389 : 0 ≤ ((ji7):Int):=of_decide_eq_true (by first|(with_reducible assumption)|assumption)
          have q389:(ji7) < (l0.length:Int):=of_decide_eq_true (by first|(with_reducible assumption)|assumption)
          obtain ⟨ad389,A389_3,c389_3,A389_5,c389_5,e389,hx389_0,hx389_1,hx389_2,hx389_3,hx389_4,hx389_5,hl389_3,hi389_3,hl389_5,hi389_5⟩:=at_T79 HR0.out (ji7) p389 q389
          have hw389_5:=hx389_5
          have hw389_4:=hx389_4
          have hw389_3:=hx389_3
          have hw389_2:=hx389_2
          have hw389_1:=hx389_1
          have hw389_0:=hx389_0
          obtain rfl:ad387=ad389:=(by injection e389)
          replace hx389_0:=(HB.out.cell (World.block_lt_of_cell? w _ hx389_0)).trans hx389_0
          replace hx389_1:=(HB.out.cell (World.block_lt_of_cell? w _ hx389_1)).trans hx389_1
          replace hx389_2:=(HB.out.cell (World.block_lt_of_cell? w _ hx389_2)).trans hx389_2
          replace hx389_3:=(HB.out.cell (World.block_lt_of_cell? w _ hx389_3)).trans hx389_3
          replace hx389_4:=(HB.out.cell (World.block_lt_of_cell? w _ hx389_4)).trans hx389_4
          replace hx389_5:=(HB.out.cell (World.block_lt_of_cell? w _ hx389_5)).trans hx389_5
          have HR389_3:=Aside0.mk hi389_3
          have HC389_3:=Aside0.mk hl389_3
          clear hi389_3 hl389_3
          have HR389_5:=Aside0.mk hi389_5
          have HC389_5:=Aside0.mk hl389_5
          clear hi389_5 hl389_5
          replace p389:=eq_true p389
          replace q389:=eq_true q389
          have p390 : 0 ≤ (x3_1:Int):=of_decide_eq_true (by first|(with_reducible assumption)|assumption)
          have q390:x3_1 < (l0.length:Int):=of_decide_eq_true (by first|(with_reducible assumption)|assumption)
          obtain ⟨ad390,A390_3,c390_3,A390_5,c390_5,e390,hx390_0,hx390_1,hx390_2,hx390_3,hx390_4,hx390_5,hl390_3,hi390_3,hl390_5,hi390_5⟩:=at_T79 HR0.out x3_1 p390 q390
          have hw390_5:=hx390_5
          have hw390_4:=hx390_4
          have hw390_3:=hx390_3
          have hw390_2:=hx390_2
          have hw390_1:=hx390_1
          have hw390_0:=hx390_0
          obtain rfl:ad387=ad390:=(by injection e390)
          replace hx390_0:=(HB.out.cell (World.block_lt_of_cell? w _ hx390_0)).trans hx390_0
          replace hx390_1:=(HB.out.cell (World.block_lt_of_cell? w _ hx390_1)).trans hx390_1
          replace hx390_2:=(HB.out.cell (World.block_lt_of_cell? w _ hx390_2)).trans hx390_2
          replace hx390_3:=(HB.out.cell (World.block_lt_of_cell? w _ hx390_3)).trans hx390_3
          replace hx390_4:=(HB.out.cell (World.block_lt_of_cell? w _ hx390_4)).trans hx390_4
          replace hx390_5:=(HB.out.cell (World.block_lt_of_cell? w _ hx390_5)).trans hx390_5
          have HR390_3:=Aside0.mk hi390_3
          have HC390_3:=Aside0.mk hl390_3
          clear hi390_3 hl390_3
          have HR390_5:=Aside0.mk hi390_5
          have HC390_5:=Aside0.mk hl390_5
          clear hi390_5 hl390_5
          replace p390:=eq_true p390
          replace q390:=eq_true q390
          refine start_ (n:=24) (S:=fun w'=>w'.cell? (ad387.add ((x3_1).toNat * 6))=some (.int .i64 ((rd_T79 l0 x3_1).f0))∧w'.cell? ⟨(ad387.add ((x3_1).toNat * 6)).block,(ad387.add ((x3_1).toNat * 6)).off+1,none⟩=some (.int .i64 ((rd_T79 l0 x3_1).f1))∧w'.cell? ⟨(ad387.add ((x3_1).toNat * 6)).block,(ad387.add ((x3_1).toNat * 6)).off+2,none⟩=some (.bool ((rd_T79 l0 x3_1).f2))∧w'.cell? ⟨(ad387.add ((x3_1).toNat * 6)).block,(ad387.add ((x3_1).toNat * 6)).off+3,none⟩=some (.slice A387_3 ((rd_T79 l0 x3_1).f3).length c387_3)∧w'.cell? ⟨(ad387.add ((x3_1).toNat * 6)).block,(ad387.add ((x3_1).toNat * 6)).off+4,none⟩=some (.bool ((rd_T79 l0 x3_1).f4))∧w'.cell? ⟨(ad387.add ((x3_1).toNat * 6)).block,(ad387.add ((x3_1).toNat * 6)).off+5,none⟩=some (.slice A387_5 ((rd_T79 l0 x3_1).f5).length c387_5)∧w'.cell? (ad387.add (((ji7)).toNat * 6))=some (.int .i64 ((rd_T79 l0 (ji7)).f0))∧w'.cell? ⟨(ad387.add (((ji7)).toNat * 6)).block,(ad387.add (((ji7)).toNat * 6)).off+1,none⟩=some (.int .i64 ((rd_T79 l0 (ji7)).f1))∧w'.cell? ⟨(ad387.add (((ji7)).toNat * 6)).block,(ad387.add (((ji7)).toNat * 6)).off+2,none⟩=some (.bool ((rd_T79 l0 (ji7)).f2))∧w'.cell? ⟨(ad387.add (((ji7)).toNat * 6)).block,(ad387.add (((ji7)).toNat * 6)).off+3,none⟩=some (.slice A389_3 ((rd_T79 l0 (ji7)).f3).length c389_3)∧w'.cell? ⟨(ad387.add (((ji7)).toNat * 6)).block,(ad387.add (((ji7)).toNat * 6)).off+4,none⟩=some (.bool ((rd_T79 l0 (ji7)).f4))∧w'.cell? ⟨(ad387.add (((ji7)).toNat * 6)).block,(ad387.add (((ji7)).toNat * 6)).off+5,none⟩=some (.slice A389_5 ((rd_T79 l0 (ji7)).f5).length c389_5)∧w'.cell? (ad387.add ((x3_1).toNat * 6))=some (.int .i64 ((rd_T79 l0 x3_1).f0))∧w'.cell? ⟨(ad387.add ((x3_1).toNat * 6)).block,(ad387.add ((x3_1).toNat * 6)).off+1,none⟩=some (.int .i64 ((rd_T79 l0 x3_1).f1))∧w'.cell? ⟨(ad387.add ((x3_1).toNat * 6)).block,(ad387.add ((x3_1).toNat * 6)).off+2,none⟩=some (.bool ((rd_T79 l0 x3_1).f2))∧w'.cell? ⟨(ad387.add ((x3_1).toNat * 6)).block,(ad387.add ((x3_1).toNat * 6)).off+3,none⟩=some (.slice A390_3 ((rd_T79 l0 x3_1).f3).length c390_3)∧w'.cell? ⟨(ad387.add ((x3_1).toNat * 6)).block,(ad387.add ((x3_1).toNat * 6)).off+4,none⟩=some (.bool ((rd_T79 l0 x3_1).f4))∧w'.cell? ⟨(ad387.add ((x3_1).toNat * 6)).block,(ad387.add ((x3_1).toNat * 6)).off+5,none⟩=some (.slice A390_5 ((rd_T79 l0 x3_1).f5).length c390_5)) (ds:=[]) #[false,false,false,false,false,false,false,false,false,false,false,false,false,false,false,false,false,false,false,false,false,false,false,false] (by kernel_rfl) rfl rfl ⟨((HB.out.cell (World.block_lt_of_cell? w _ hw387_0)).trans hw387_0),((HB.out.cell (World.block_lt_of_cell? w _ hw387_1)).trans hw387_1),((HB.out.cell (World.block_lt_of_cell? w _ hw387_2)).trans hw387_2),((HB.out.cell (World.block_lt_of_cell? w _ hw387_3)).trans hw387_3),((HB.out.cell (World.block_lt_of_cell? w _ hw387_4)).trans hw387_4),((HB.out.cell (World.block_lt_of_cell? w _ hw387_5)).trans hw387_5),((HB.out.cell (World.block_lt_of_cell? w _ hw389_0)).trans hw389_0),((HB.out.cell (World.block_lt_of_cell? w _ hw389_1)).trans hw389_1),((HB.out.cell (World.block_lt_of_cell? w _ hw389_2)).trans hw389_2),((HB.out.cell (World.block_lt_of_cell? w _ hw389_3)).trans hw389_3),((HB.out.cell (World.block_lt_of_cell? w _ hw389_4)).trans hw389_4),((HB.out.cell (World.block_lt_of_cell? w _ hw389_5)).trans hw389_5),((HB.out.cell (World.block_lt_of_cell? w _ hw390_0)).trans hw390_0),((HB.out.cell (World.block_lt_of_cell? w _ hw390_1)).trans hw390_1),((HB.out.cell (World.block_lt_of_cell? w _ hw390_2)).trans hw390_2),((HB.out.cell (World.block_lt_of_cell? w _ hw390_3)).trans hw390_3),((HB.out.cell (World.block_lt_of_cell? w _ hw390_4)).trans hw390_4),((HB.out.cell (World.block_lt_of_cell? w _ hw390_5)).trans hw390_5)⟩ (fun hHeld=>?_);refine with_tabW spec_l5Records.tab4 spec_l5Records.bits4 (fun HT_ HW_=>?_)
          generalize wr.drew=w11 at HB HR387_3 HR387_5 HR389_3 HR389_5 HR390_3 HR390_5 hx387_0 hx387_1 hx387_2 hx387_3 hx387_4 hx387_5 hx389_0 hx389_1 hx389_2 hx389_3 hx389_4 hx389_5 hx390_0 hx390_1 hx390_2 hx390_3 hx390_4 hx390_5 hHeld ⊢
          refine pure_ (i:=0) (N:=some 10) (v:=?_) (a':=?_) #[true,false,false,false,false,false,false,false,false,false,false,false,false,false,false,false,false,false,false,false,false,false,false,false] rfl rfl (any_of HT_.out (by kernel_rfl)) (fun _ _ _ h=>h) (Or.inl ⟨by rfl,?_⟩) ?_ ?_
          rotate_left
          ·intro w'
           go_simp
           with_reducible rfl
          rotate_left
          ·simp only [Act.put,setIfInBounds_toArray,set_cons_zero,set_cons_succ,i64_w,i32_w]
           rfl
          refine pure_ (i:=1) (N:=some 11) (v:=?_) (a':=?_) #[true,true,false,false,false,false,false,false,false,false,false,false,false,false,false,false,false,false,false,false,false,false,false,false] rfl rfl (any_of HT_.out (by kernel_rfl)) (fun _ _ _ h=>h) (Or.inl ⟨by rfl,?_⟩) ?_ ?_
          rotate_left
          ·intro w'
           go_simp
           with_reducible rfl
          rotate_left
          ·simp only [Act.put,setIfInBounds_toArray,set_cons_zero,set_cons_succ,i64_w,i32_w]
           rfl
          refine pure_ (i:=2) (N:=some 12) (v:=?_) (a':=?_) #[true,true,true,false,false,false,false,false,false,false,false,false,false,false,false,false,false,false,false,false,false,false,false,false] rfl rfl (any_of HT_.out (by kernel_rfl)) (fun _ _ _ h=>h) (Or.inl ⟨by rfl,?_⟩) ?_ ?_
          rotate_left
          ·intro w'
           go_simp
           with_reducible rfl
          rotate_left
          ·simp only [Act.put,setIfInBounds_toArray,set_cons_zero,set_cons_succ,i64_w,i32_w]
           rfl
          refine take_ (i:=3) (N:=some 13) (v:=?_) (a':=?_) #[true,true,true,true,false,false,false,false,false,false,false,false,false,false,false,false,false,false,false,false,false,false,false,false] rfl rfl (take_ofW HT_.out HW_.out (by kernel_rfl)) (fun _ _ _ h=>h) (Or.inl ⟨by rfl,?_⟩) hHeld ?_ ?_
          rotate_left
          ·rintro w' ⟨s0,s1,s2,s3,s4,s5,s6,s7,s8,s9,s10,s11,s12,s13,s14,s15,s16,s17⟩
           go_simp
           with_reducible rfl
          rotate_left
          ·simp only [Act.put,setIfInBounds_toArray,set_cons_zero,set_cons_succ,i64_w,i32_w]
           rfl
          refine one_ (i:=4) (N:=some 14) #[true,true,true,true,true,false,false,false,false,false,false,false,false,false,false,false,false,false,false,false,false,false,false,false] rfl rfl (one_of HT_.out (by kernel_rfl)) (by decide) (fun K hK=>?_)
          refine goes_ Try.func78 (by kernel_rfl) rfl #[.agg #[.int .i64 ((rd_T79 l0 x3_1).f0),.int .i64 ((rd_T79 l0 x3_1).f1),.bool ((rd_T79 l0 x3_1).f2),.slice A387_3 ((rd_T79 l0 x3_1).f3).length c387_3,.bool ((rd_T79 l0 x3_1).f4),.slice A387_5 ((rd_T79 l0 x3_1).f5).length c387_5]] (by rfl) rfl rfl (by (try simp only [map_toArray,map_cons,map_nil]);first|done|rfl|(simp only [length_drop,length_take];rfl)) ?_
          with_reducible refine (spec_RecordValid.calls k1 ((rd_T79 l0 x3_1).f0) ((rd_T79 l0 x3_1).f1) ((rd_T79 l0 x3_1).f2) _ _ ((rd_T79 l0 x3_1).f3) ((rd_T79 l0 x3_1).f4) _ _ ((rd_T79 l0 x3_1).f5) true _ ?side1 ?side2 ?side3 ?side4 A4.out).mono ?_
          (case side1=>repeat (first|exact (Kd.C_below HR387_3.out HB.out)|(with_reducible refine Kd.C_alloc ?_ _)|(with_reducible refine Kd.C_drewN ?_ _)|(with_reducible refine Kd.C_drew ?_)))
          (case side2=>exact HC387_3.out)
          (case side3=>repeat (first|exact (Kd.C_below HR387_5.out HB.out)|(with_reducible refine Kd.C_alloc ?_ _)|(with_reducible refine Kd.C_drewN ?_ _)|(with_reducible refine Kd.C_drew ?_)))
          (case side4=>exact HC387_5.out)
          rintro e w12 ⟨rfl,hb⟩
          refine ⟨_,rfl,?_⟩
          have n0_:=Aside0.mk (below_step (by repeat (first|(with_reducible first|exact HB.out|apply below_alloc|apply pw_below_drewN|apply below_drew1)|exact HB.out)) hb)
          clear HB
          have HB:=n0_
          clear n0_
          (try clear hb)
          (try clear hb2)
          (try clear hk)
          (try clear hi)
          refine hK.out _ _ ⟨((HB.out.cell (World.block_lt_of_cell? w _ hw387_0)).trans hw387_0),((HB.out.cell (World.block_lt_of_cell? w _ hw387_1)).trans hw387_1),((HB.out.cell (World.block_lt_of_cell? w _ hw387_2)).trans hw387_2),((HB.out.cell (World.block_lt_of_cell? w _ hw387_3)).trans hw387_3),((HB.out.cell (World.block_lt_of_cell? w _ hw387_4)).trans hw387_4),((HB.out.cell (World.block_lt_of_cell? w _ hw387_5)).trans hw387_5),((HB.out.cell (World.block_lt_of_cell? w _ hw389_0)).trans hw389_0),((HB.out.cell (World.block_lt_of_cell? w _ hw389_1)).trans hw389_1),((HB.out.cell (World.block_lt_of_cell? w _ hw389_2)).trans hw389_2),((HB.out.cell (World.block_lt_of_cell? w _ hw389_3)).trans hw389_3),((HB.out.cell (World.block_lt_of_cell? w _ hw389_4)).trans hw389_4),((HB.out.cell (World.block_lt_of_cell? w _ hw389_5)).trans hw389_5),((HB.out.cell (World.block_lt_of_cell? w _ hw390_0)).trans hw390_0),((HB.out.cell (World.block_lt_of_cell? w _ hw390_1)).trans hw390_1),((HB.out.cell (World.block_lt_of_cell? w _ hw390_2)).trans hw390_2),((HB.out.cell (World.block_lt_of_cell? w _ hw390_3)).trans hw390_3),((HB.out.cell (World.block_lt_of_cell? w _ hw390_4)).trans hw390_4),((HB.out.cell (World.block_lt_of_cell? w _ hw390_5)).trans hw390_5)⟩ (fun hHeld=>?_)
          clear hK K
          refine norm_ (a':=?_) ?_ ?_
          rotate_left
          ·show Act.put _ (some 14) _ = _
           simp only [Act.put,setIfInBounds_toArray,set_cons_zero,set_cons_succ,i64_w,i32_w]
           rfl
          refine pure_ (i:=5) (N:=some 15) (v:=?_) (a':=?_) #[true,true,true,true,true,true,false,false,false,false,false,false,false,false,false,false,false,false,false,false,false,false,false,false] rfl rfl (any_of HT_.out (by kernel_rfl)) (fun _ _ _ h=>h) (Or.inl ⟨by rfl,?_⟩) ?_ ?_
          rotate_left
          ·intro w'
           go_simp
           with_reducible rfl
          rotate_left
          ·simp only [Act.put,setIfInBounds_toArray,set_cons_zero,set_cons_succ,i64_w,i32_w]
           rfl
          refine pure_ (i:=6) (N:=some 16) (v:=?_) (a':=?_) #[true,true,true,true,true,true,true,false,false,false,false,false,false,false,false,false,false,false,false,false,false,false,false,false] rfl rfl (any_of HT_.out (by kernel_rfl)) (fun _ _ _ h=>h) (Or.inl ⟨by rfl,?_⟩) ?_ ?_
          rotate_left
          ·intro w'
           go_simp
           with_reducible rfl
          rotate_left
          ·simp only [Act.put,setIfInBounds_toArray,set_cons_zero,set_cons_succ,i64_w,i32_w]
           rfl
          refine pure_ (i:=7) (N:=some 17) (v:=?_) (a':=?_) #[true,true,true,true,true,true,true,true,false,false,false,false,false,false,false,false,false,false,false,false,false,false,false,false] rfl rfl (any_of HT_.out (by kernel_rfl)) (fun _ _ _ h=>h) (Or.inl ⟨by rfl,?_⟩) ?_ ?_
          rotate_left
          ·intro w'
           go_simp
           with_reducible rfl
          rotate_left
          ·simp only [Act.put,setIfInBounds_toArray,set_cons_zero,set_cons_succ,i64_w,i32_w]
           rfl
          refine pure_ (i:=8) (N:=some 18) (v:=?_) (a':=?_) #[true,true,true,true,true,true,true,true,true,false,false,false,false,false,false,false,false,false,false,false,false,false,false,false] rfl rfl (any_of HT_.out (by kernel_rfl)) (fun _ _ _ h=>h) (Or.inl ⟨by rfl,?_⟩) ?_ ?_
          rotate_left
          ·intro w'
           go_simp
           with_reducible rfl
          rotate_left
          ·simp only [Act.put,setIfInBounds_toArray,set_cons_zero,set_cons_succ,i64_w,i32_w]
           rfl
          refine pure_ (i:=9) (N:=some 19) (v:=?_) (a':=?_) #[true,true,true,true,true,true,true,true,true,true,false,false,false,false,false,false,false,false,false,false,false,false,false,false] rfl rfl (any_of HT_.out (by kernel_rfl)) (fun _ _ _ h=>h) (Or.inl ⟨by rfl,?_⟩) ?_ ?_
          rotate_left
          ·intro w'
           go_simp
           with_reducible rfl
          rotate_left
          ·simp only [Act.put,setIfInBounds_toArray,set_cons_zero,set_cons_succ,i64_w,i32_w]
           rfl
          refine pure_ (i:=10) (N:=some 20) (v:=?_) (a':=?_) #[true,true,true,true,true,true,true,true,true,true,true,false,false,false,false,false,false,false,false,false,false,false,false,false] rfl rfl (any_of HT_.out (by kernel_rfl)) (fun _ _ _ h=>h) (Or.inl ⟨by rfl,?_⟩) ?_ ?_
          rotate_left
          ·intro w'
           go_simp
           with_reducible rfl
          rotate_left
          ·simp only [Act.put,setIfInBounds_toArray,set_cons_zero,set_cons_succ,i64_w,i32_w]
           rfl
          refine pure_ (i:=11) (N:=some 21) (v:=?_) (a':=?_) #[true,true,true,true,true,true,true,true,true,true,true,true,false,false,false,false,false,false,false,false,false,false,false,false] rfl rfl (any_of HT_.out (by kernel_rfl)) (fun _ _ _ h=>h) (Or.inl ⟨by rfl,?_⟩) ?_ ?_
          rotate_left
          ·intro w'
           go_simp
           with_reducible rfl
          rotate_left
          ·simp only [Act.put,setIfInBounds_toArray,set_cons_zero,set_cons_succ,i64_w,i32_w]
           rfl
          refine pure_ (i:=12) (N:=some 22) (v:=?_) (a':=?_) #[true,true,true,true,true,true,true,true,true,true,true,true,true,false,false,false,false,false,false,false,false,false,false,false] rfl rfl (any_of HT_.out (by kernel_rfl)) (fun _ _ _ h=>h) (Or.inl ⟨by rfl,?_⟩) ?_ ?_
          rotate_left
          ·intro w'
           go_simp
           with_reducible rfl
          rotate_left
          ·simp only [Act.put,setIfInBounds_toArray,set_cons_zero,set_cons_succ,i64_w,i32_w]
           rfl
          refine pure_ (i:=13) (N:=some 23) (v:=?_) (a':=?_) #[true,true,true,true,true,true,true,true,true,true,true,true,true,true,false,false,false,false,false,false,false,false,false,false] rfl rfl (any_of HT_.out (by kernel_rfl)) (fun _ _ _ h=>h) (Or.inl ⟨by rfl,?_⟩) ?_ ?_
          rotate_left
          ·intro w'
           go_simp
           with_reducible rfl
          rotate_left
          ·simp only [Act.put,setIfInBounds_toArray,set_cons_zero,set_cons_succ,i64_w,i32_w]
           rfl
          refine pure_ (i:=14) (N:=some 24) (v:=?_) (a':=?_) #[true,true,true,true,true,true,true,true,true,true,true,true,true,true,true,false,false,false,false,false,false,false,false,false] rfl rfl (any_of HT_.out (by kernel_rfl)) (fun _ _ _ h=>h) (Or.inl ⟨by rfl,?_⟩) ?_ ?_
          rotate_left
          ·intro w'
           go_simp
           with_reducible rfl
          rotate_left
          ·simp only [Act.put,setIfInBounds_toArray,set_cons_zero,set_cons_succ,i64_w,i32_w]
           rfl
          refine pure_ (i:=16) (N:=some 26) (v:=?_) (a':=?_) #[true,true,true,true,true,true,true,true,true,true,true,true,true,true,true,false,true,false,false,false,false,false,false,false] rfl rfl (any_of HT_.out (by kernel_rfl)) (fun _ _ _ h=>h) (Or.inl ⟨by rfl,?_⟩) ?_ ?_
          rotate_left
          ·intro w'
           go_simp
           with_reducible rfl
          rotate_left
          ·simp only [Act.put,setIfInBounds_toArray,set_cons_zero,set_cons_succ,i64_w,i32_w]
           rfl
          refine pure_ (i:=17) (N:=some 27) (v:=?_) (a':=?_) #[true,true,true,true,true,true,true,true,true,true,true,true,true,true,true,false,true,true,false,false,false,false,false,false] rfl rfl (any_of HT_.out (by kernel_rfl)) (fun _ _ _ h=>h) (Or.inl ⟨by rfl,?_⟩) ?_ ?_
          rotate_left
          ·intro w'
           go_simp
           with_reducible rfl
          rotate_left
          ·simp only [Act.put,setIfInBounds_toArray,set_cons_zero,set_cons_succ,i64_w,i32_w]
           rfl
          refine pure_ (i:=18) (N:=some 28) (v:=?_) (a':=?_) #[true,true,true,true,true,true,true,true,true,true,true,true,true,true,true,false,true,true,true,false,false,false,false,false] rfl rfl (any_of HT_.out (by kernel_rfl)) (fun _ _ _ h=>h) (Or.inl ⟨by rfl,?_⟩) ?_ ?_
          rotate_left
          ·intro w'
           go_simp
           with_reducible rfl
          rotate_left
          ·simp only [Act.put,setIfInBounds_toArray,set_cons_zero,set_cons_succ,i64_w,i32_w]
           rfl
          refine pure_ (i:=19) (N:=some 29) (v:=?_) (a':=?_) #[true,true,true,true,true,true,true,true,true,true,true,true,true,true,true,false,true,true,true,true,false,false,false,false] rfl rfl (any_of HT_.out (by kernel_rfl)) (fun _ _ _ h=>h) (Or.inl ⟨by rfl,?_⟩) ?_ ?_
          rotate_left
          ·intro w'
           go_simp
           with_reducible rfl
          rotate_left
          ·simp only [Act.put,setIfInBounds_toArray,set_cons_zero,set_cons_succ,i64_w,i32_w]
           rfl
          refine take_ (i:=15) (N:=some 25) (v:=?_) (a':=?_) #[true,true,true,true,true,true,true,true,true,true,true,true,true,true,true,true,true,true,true,true,false,false,false,false] rfl rfl (take_ofW HT_.out HW_.out (by kernel_rfl)) (fun _ _ _ h=>h) (Or.inl ⟨by rfl,?_⟩) hHeld ?_ ?_
          rotate_left
          ·rintro w' ⟨s0,s1,s2,s3,s4,s5,s6,s7,s8,s9,s10,s11,s12,s13,s14,s15,s16,s17⟩
           go_simp
           with_reducible rfl
          rotate_left
          ·simp only [Act.put,setIfInBounds_toArray,set_cons_zero,set_cons_succ,i64_w,i32_w]
           rfl
          refine take_ (i:=20) (N:=some 30) (v:=?_) (a':=?_) #[true,true,true,true,true,true,true,true,true,true,true,true,true,true,true,true,true,true,true,true,true,false,false,false] rfl rfl (take_ofW HT_.out HW_.out (by kernel_rfl)) (fun _ _ _ h=>h) (Or.inl ⟨by rfl,?_⟩) hHeld ?_ ?_
          rotate_left
          ·rintro w' ⟨s0,s1,s2,s3,s4,s5,s6,s7,s8,s9,s10,s11,s12,s13,s14,s15,s16,s17⟩
           go_simp
           with_reducible rfl
          rotate_left
          ·simp only [Act.put,setIfInBounds_toArray,set_cons_zero,set_cons_succ,i64_w,i32_w]
           rfl
          refine pure_ (i:=21) (N:=some 31) (v:=?_) (a':=?_) #[true,true,true,true,true,true,true,true,true,true,true,true,true,true,true,true,true,true,true,true,true,true,false,false] rfl rfl (any_of HT_.out (by kernel_rfl)) (fun _ _ _ h=>h) (Or.inl ⟨by rfl,?_⟩) ?_ ?_
          rotate_left
          ·intro w'
           go_simp
           with_reducible rfl
          rotate_left
          ·simp only [Act.put,setIfInBounds_toArray,set_cons_zero,set_cons_succ,i64_w,i32_w]
           rfl
          refine pure_ (i:=22) (N:=some 32) (v:=?_) (a':=?_) #[true,true,true,true,true,true,true,true,true,true,true,true,true,true,true,true,true,true,true,true,true,true,true,false] rfl rfl (any_of HT_.out (by kernel_rfl)) (fun _ _ _ h=>h) (Or.inl ⟨by rfl,?_⟩) ?_ ?_
          rotate_left
          ·intro w'
           go_simp
           with_reducible rfl
          rotate_left
          ·simp only [Act.put,setIfInBounds_toArray,set_cons_zero,set_cons_succ,i64_w,i32_w]
           rfl
          refine pure_ (i:=23) (N:=some 33) (v:=?_) (a':=?_) #[true,true,true,true,true,true,true,true,true,true,true,true,true,true,true,true,true,true,true,true,true,true,true,true] rfl rfl (any_of HT_.out (by kernel_rfl)) (fun _ _ _ h=>h) (Or.inl ⟨by rfl,?_⟩) ?_ ?_
          rotate_left
          ·intro w'
           go_simp
           with_reducible rfl
          rotate_left
          ·simp only [Act.put,setIfInBounds_toArray,set_cons_zero,set_cons_succ,i64_w,i32_w]
           rfl
          refine done_ (done_of HT_.out (by kernel_rfl)) ?_
          try go_wp2
          go_ret
          exact ⟨by first|rfl|(simp [errW_none,errW_some] <;> rfl)|(simp only [← hji7];first|rfl|(simp [errW_none,errW_some] <;> rfl))|(simp [*,errW_none,errW_some] <;> rfl),by repeat (first|(with_reducible first|exact HB.out|apply below_alloc|apply pw_below_drewN|apply below_drew1)|exact HB.out)⟩
         ·rw [if_neg c10] at H
          have c10b0:decide (((rd_T79 l0 x3_1).f0) ≤ ((rd_T79 l0 (ji7)).f0))=false:=decide_eq_false c10
          clear c10
          have H':=Aside0.mk H
          clear H
          try go_wp2
          have n0_:=Aside0.mk (below_drew1 HB.out)
          clear HB
          have HB:=n0_
          clear n0_
          have p387 : 0 ≤ (x3_1:Int):=of_decide_eq_true (by first|(with_reducible assumption)|assumption)
          have q387:x3_1 < (l0.length:Int):=of_decide_eq_true (by first|(with_reducible assumption)|assumption)
          obtain ⟨ad387,A387_3,c387_3,A387_5,c387_5,e387,hx387_0,hx387_1,hx387_2,hx387_3,hx387_4,hx387_5,hl387_3,hi387_3,hl387_5,hi387_5⟩:=at_T79 HR0.out x3_1 p387 q387
          have hw387_5:=hx387_5
          have hw387_4:=hx387_4
          have hw387_3:=hx387_3
          have hw387_2:=hx387_2
          have hw387_1:=hx387_1
          have hw387_0:=hx387_0
          cases e387
          replace hx387_0:=(HB.out.cell (World.block_lt_of_cell? w _ hx387_0)).trans hx387_0
          replace hx387_1:=(HB.out.cell (World.block_lt_of_cell? w _ hx387_1)).trans hx387_1
          replace hx387_2:=(HB.out.cell (World.block_lt_of_cell? w _ hx387_2)).trans hx387_2
          replace hx387_3:=(HB.out.cell (World.block_lt_of_cell? w _ hx387_3)).trans hx387_3
          replace hx387_4:=(HB.out.cell (World.block_lt_of_cell? w _ hx387_4)).trans hx387_4
          replace hx387_5:=(HB.out.cell (World.block_lt_of_cell? w _ hx387_5)).trans hx387_5
          have HR387_3:=Aside0.mk hi387_3
          have HC387_3:=Aside0.mk hl387_3
          clear hi387_3 hl387_3
          have HR387_5:=Aside0.mk hi387_5
          have HC387_5:=Aside0.mk hl387_5
          clear hi387_5 hl387_5
          replace p387:=eq_true p387
          replace q387:=eq_true q387
          have p389 : 0 ≤ ((ji7):Int):=of_decide_eq_true (by first|(with_reducible assumption)|assumption)
          have q389:(ji7) < (l0.length:Int):=of_decide_eq_true (by first|(with_reducible assumption)|assumption)
          obtain ⟨ad389,A389_3,c389_3,A389_5,c389_5,e389,hx389_0,hx389_1,hx389_2,hx389_3,hx389_4,hx389_5,hl389_3,hi389_3,hl389_5,hi389_5⟩:=at_T79 HR0.out (ji7) p389 q389
          have hw389_5:=hx389_5
          have hw389_4:=hx389_4
          have hw389_3:=hx389_3
          have hw389_2:=hx389_2
          have hw389_1:=hx389_1
          have hw389_0:=hx389_0
          obtain rfl:ad387=ad389:=(by injection e389)
          replace hx389_0:=(HB.out.cell (World.block_lt_of_cell? w _ hx389_0)).trans hx389_0
          replace hx389_1:=(HB.out.cell (World.block_lt_of_cell? w _ hx389_1)).trans hx389_1
          replace hx389_2:=(HB.out.cell (World.block_lt_of_cell? w _ hx389_2)).trans hx389_2
          replace hx389_3:=(HB.out.cell (World.block_lt_of_cell? w _ hx389_3)).trans hx389_3
          replace hx389_4:=(HB.out.cell (World.block_lt_of_cell? w _ hx389_4)).trans hx389_4
          replace hx389_5:=(HB.out.cell (World.block_lt_of_cell? w _ hx389_5)).trans hx389_5
          have HR389_3:=Aside0.mk hi389_3
          have HC389_3:=Aside0.mk hl389_3
          clear hi389_3 hl389_3
          have HR389_5:=Aside0.mk hi389_5
          have HC389_5:=Aside0.mk hl389_5
          clear hi389_5 hl389_5
          replace p389:=eq_true p389
          replace q389:=eq_true q389
          have p390 : 0 ≤ (x3_1:Int):=of_decide_eq_true (by first|(with_reducible assumption)|assumption)
          have q390:x3_1 < (l0.length:Int):=of_decide_eq_true (by first|(with_reducible assumption)|assumption)
          obtain ⟨ad390,A390_3,c390_3,A390_5,c390_5,e390,hx390_0,hx390_1,hx390_2,hx390_3,hx390_4,hx390_5,hl390_3,hi390_3,hl390_5,hi390_5⟩:=at_T79 HR0.out x3_1 p390 q390
          have hw390_5:=hx390_5
          have hw390_4:=hx390_4
          have hw390_3:=hx390_3
          have hw390_2:=hx390_2
          have hw390_1:=hx390_1
          have hw390_0:=hx390_0
          obtain rfl:ad387=ad390:=(by injection e390)
          replace hx390_0:=(HB.out.cell (World.block_lt_of_cell? w _ hx390_0)).trans hx390_0
          replace hx390_1:=(HB.out.cell (World.block_lt_of_cell? w _ hx390_1)).trans hx390_1
          replace hx390_2:=(HB.out.cell (World.block_lt_of_cell? w _ hx390_2)).trans hx390_2
          replace hx390_3:=(HB.out.cell (World.block_lt_of_cell? w _ hx390_3)).trans hx390_3
          replace hx390_4:=(HB.out.cell (World.block_lt_of_cell? w _ hx390_4)).trans hx390_4
          replace hx390_5:=(HB.out.cell (World.block_lt_of_cell? w _ hx390_5)).trans hx390_5
          have HR390_3:=Aside0.mk hi390_3
          have HC390_3:=Aside0.mk hl390_3
          clear hi390_3 hl390_3
          have HR390_5:=Aside0.mk hi390_5
          have HC390_5:=Aside0.mk hl390_5
          clear hi390_5 hl390_5
          replace p390:=eq_true p390
          replace q390:=eq_true q390
          refine start_ (n:=24) (S:=fun w'=>w'.cell? (ad387.add ((x3_1).toNat * 6))=some (.int .i64 ((rd_T79 l0 x3_1).f0))∧w'.cell? ⟨(ad387.add ((x3_1).toNat * 6)).block,(ad387.add ((x3_1).toNat * 6)).off+1,none⟩=some (.int .i64 ((rd_T79 l0 x3_1).f1))∧w'.cell? ⟨(ad387.add ((x3_1).toNat * 6)).block,(ad387.add ((x3_1).toNat * 6)).off+2,none⟩=some (.bool ((rd_T79 l0 x3_1).f2))∧w'.cell? ⟨(ad387.add ((x3_1).toNat * 6)).block,(ad387.add ((x3_1).toNat * 6)).off+3,none⟩=some (.slice A387_3 ((rd_T79 l0 x3_1).f3).length c387_3)∧w'.cell? ⟨(ad387.add ((x3_1).toNat * 6)).block,(ad387.add ((x3_1).toNat * 6)).off+4,none⟩=some (.bool ((rd_T79 l0 x3_1).f4))∧w'.cell? ⟨(ad387.add ((x3_1).toNat * 6)).block,(ad387.add ((x3_1).toNat * 6)).off+5,none⟩=some (.slice A387_5 ((rd_T79 l0 x3_1).f5).length c387_5)∧w'.cell? (ad387.add (((ji7)).toNat * 6))=some (.int .i64 ((rd_T79 l0 (ji7)).f0))∧w'.cell? ⟨(ad387.add (((ji7)).toNat * 6)).block,(ad387.add (((ji7)).toNat * 6)).off+1,none⟩=some (.int .i64 ((rd_T79 l0 (ji7)).f1))∧w'.cell? ⟨(ad387.add (((ji7)).toNat * 6)).block,(ad387.add (((ji7)).toNat * 6)).off+2,none⟩=some (.bool ((rd_T79 l0 (ji7)).f2))∧w'.cell? ⟨(ad387.add (((ji7)).toNat * 6)).block,(ad387.add (((ji7)).toNat * 6)).off+3,none⟩=some (.slice A389_3 ((rd_T79 l0 (ji7)).f3).length c389_3)∧w'.cell? ⟨(ad387.add (((ji7)).toNat * 6)).block,(ad387.add (((ji7)).toNat * 6)).off+4,none⟩=some (.bool ((rd_T79 l0 (ji7)).f4))∧w'.cell? ⟨(ad387.add (((ji7)).toNat * 6)).block,(ad387.add (((ji7)).toNat * 6)).off+5,none⟩=some (.slice A389_5 ((rd_T79 l0 (ji7)).f5).length c389_5)∧w'.cell? (ad387.add ((x3_1).toNat * 6))=some (.int .i64 ((rd_T79 l0 x3_1).f0))∧w'.cell? ⟨(ad387.add ((x3_1).toNat * 6)).block,(ad387.add ((x3_1).toNat * 6)).off+1,none⟩=some (.int .i64 ((rd_T79 l0 x3_1).f1))∧w'.cell? ⟨(ad387.add ((x3_1).toNat * 6)).block,(ad387.add ((x3_1).toNat * 6)).off+2,none⟩=some (.bool ((rd_T79 l0 x3_1).f2))∧w'.cell? ⟨(ad387.add ((x3_1).toNat * 6)).block,(ad387.add ((x3_1).toNat * 6)).off+3,none⟩=some (.slice A390_3 ((rd_T79 l0 x3_1).f3).length c390_3)∧w'.cell? ⟨(ad387.add ((x3_1).toNat * 6)).block,(ad387.add ((x3_1).toNat * 6)).off+4,none⟩=some (.bool ((rd_T79 l0 x3_1).f4))∧w'.cell? ⟨(ad387.add ((x3_1).toNat * 6)).block,(ad387.add ((x3_1).toNat * 6)).off+5,none⟩=some (.slice A390_5 ((rd_T79 l0 x3_1).f5).length c390_5)) (ds:=[]) #[false,false,false,false,false,false,false,false,false,false,false,false,false,false,false,false,false,false,false,false,false,false,false,false] (by kernel_rfl) rfl rfl ⟨((HB.out.cell (World.block_lt_of_cell? w _ hw387_0)).trans hw387_0),((HB.out.cell (World.block_lt_of_cell? w _ hw387_1)).trans hw387_1),((HB.out.cell (World.block_lt_of_cell? w _ hw387_2)).trans hw387_2),((HB.out.cell (World.block_lt_of_cell? w _ hw387_3)).trans hw387_3),((HB.out.cell (World.block_lt_of_cell? w _ hw387_4)).trans hw387_4),((HB.out.cell (World.block_lt_of_cell? w _ hw387_5)).trans hw387_5),((HB.out.cell (World.block_lt_of_cell? w _ hw389_0)).trans hw389_0),((HB.out.cell (World.block_lt_of_cell? w _ hw389_1)).trans hw389_1),((HB.out.cell (World.block_lt_of_cell? w _ hw389_2)).trans hw389_2),((HB.out.cell (World.block_lt_of_cell? w _ hw389_3)).trans hw389_3),((HB.out.cell (World.block_lt_of_cell? w _ hw389_4)).trans hw389_4),((HB.out.cell (World.block_lt_of_cell? w _ hw389_5)).trans hw389_5),((HB.out.cell (World.block_lt_of_cell? w _ hw390_0)).trans hw390_0),((HB.out.cell (World.block_lt_of_cell? w _ hw390_1)).trans hw390_1),((HB.out.cell (World.block_lt_of_cell? w _ hw390_2)).trans hw390_2),((HB.out.cell (World.block_lt_of_cell? w _ hw390_3)).trans hw390_3),((HB.out.cell (World.block_lt_of_cell? w _ hw390_4)).trans hw390_4),((HB.out.cell (World.block_lt_of_cell? w _ hw390_5)).trans hw390_5)⟩ (fun hHeld=>?_);refine with_tabW spec_l5Records.tab4 spec_l5Records.bits4 (fun HT_ HW_=>?_)
          generalize wr.drew=w13 at HB HR387_3 HR387_5 HR389_3 HR389_5 HR390_3 HR390_5 hx387_0 hx387_1 hx387_2 hx387_3 hx387_4 hx387_5 hx389_0 hx389_1 hx389_2 hx389_3 hx389_4 hx389_5 hx390_0 hx390_1 hx390_2 hx390_3 hx390_4 hx390_5 hHeld ⊢
          refine pure_ (i:=0) (N:=some 10) (v:=?_) (a':=?_) #[true,false,false,false,false,false,false,false,false,false,false,false,false,false,false,false,false,false,false,false,false,false,false,false] rfl rfl (any_of HT_.out (by kernel_rfl)) (fun _ _ _ h=>h) (Or.inl ⟨by rfl,?_⟩) ?_ ?_
          rotate_left
          ·intro w'
           go_simp
           with_reducible rfl
          rotate_left
          ·simp only [Act.put,setIfInBounds_toArray,set_cons_zero,set_cons_succ,i64_w,i32_w]
           rfl
          refine pure_ (i:=1) (N:=some 11) (v:=?_) (a':=?_) #[true,true,false,false,false,false,false,false,false,false,false,false,false,false,false,false,false,false,false,false,false,false,false,false] rfl rfl (any_of HT_.out (by kernel_rfl)) (fun _ _ _ h=>h) (Or.inl ⟨by rfl,?_⟩) ?_ ?_
          rotate_left
          ·intro w'
           go_simp
           with_reducible rfl
          rotate_left
          ·simp only [Act.put,setIfInBounds_toArray,set_cons_zero,set_cons_succ,i64_w,i32_w]
           rfl
          refine pure_ (i:=2) (N:=some 12) (v:=?_) (a':=?_) #[true,true,true,false,false,false,false,false,false,false,false,false,false,false,false,false,false,false,false,false,false,false,false,false] rfl rfl (any_of HT_.out (by kernel_rfl)) (fun _ _ _ h=>h) (Or.inl ⟨by rfl,?_⟩) ?_ ?_
          rotate_left
          ·intro w'
           go_simp
           with_reducible rfl
          rotate_left
          ·simp only [Act.put,setIfInBounds_toArray,set_cons_zero,set_cons_succ,i64_w,i32_w]
           rfl
          refine take_ (i:=3) (N:=some 13) (v:=?_) (a':=?_) #[true,true,true,true,false,false,false,false,false,false,false,false,false,false,false,false,false,false,false,false,false,false,false,false] rfl rfl (take_ofW HT_.out HW_.out (by kernel_rfl)) (fun _ _ _ h=>h) (Or.inl ⟨by rfl,?_⟩) hHeld ?_ ?_
          rotate_left
          ·rintro w' ⟨s0,s1,s2,s3,s4,s5,s6,s7,s8,s9,s10,s11,s12,s13,s14,s15,s16,s17⟩
           go_simp
           with_reducible rfl
          rotate_left
          ·simp only [Act.put,setIfInBounds_toArray,set_cons_zero,set_cons_succ,i64_w,i32_w]
           rfl
          refine one_ (i:=4) (N:=some 14) #[true,true,true,true,true,false,false,false,false,false,false,false,false,false,false,false,false,false,false,false,false,false,false,false] rfl rfl (one_of HT_.out (by kernel_rfl)) (by decide) (fun K hK=>?_)
          refine goes_ Try.func78 (by kernel_rfl) rfl #[.agg #[.int .i64 ((rd_T79 l0 x3_1).f0),.int .i64 ((rd_T79 l0 x3_1).f1),.bool ((rd_T79 l0 x3_1).f2),.slice A387_3 ((rd_T79 l0 x3_1).f3).length c387_3,.bool ((rd_T79 l0 x3_1).f4),.slice A387_5 ((rd_T79 l0 x3_1).f5).length c387_5]] (by rfl) rfl rfl (by (try simp only [map_toArray,map_cons,map_nil]);first|done|rfl|(simp only [length_drop,length_take];rfl)) ?_
          with_reducible refine (spec_RecordValid.calls k1 ((rd_T79 l0 x3_1).f0) ((rd_T79 l0 x3_1).f1) ((rd_T79 l0 x3_1).f2) _ _ ((rd_T79 l0 x3_1).f3) ((rd_T79 l0 x3_1).f4) _ _ ((rd_T79 l0 x3_1).f5) true _ ?side1 ?side2 ?side3 ?side4 A4.out).mono ?_
          (case side1=>repeat (first|exact (Kd.C_below HR387_3.out HB.out)|(with_reducible refine Kd.C_alloc ?_ _)|(with_reducible refine Kd.C_drewN ?_ _)|(with_reducible refine Kd.C_drew ?_)))
          (case side2=>exact HC387_3.out)
          (case side3=>repeat (first|exact (Kd.C_below HR387_5.out HB.out)|(with_reducible refine Kd.C_alloc ?_ _)|(with_reducible refine Kd.C_drewN ?_ _)|(with_reducible refine Kd.C_drew ?_)))
          (case side4=>exact HC387_5.out)
          rintro e w14 ⟨rfl,hb⟩
          refine ⟨_,rfl,?_⟩
          have n0_:=Aside0.mk (below_step (by repeat (first|(with_reducible first|exact HB.out|apply below_alloc|apply pw_below_drewN|apply below_drew1)|exact HB.out)) hb)
          clear HB
          have HB:=n0_
          clear n0_
          (try clear hb)
          (try clear hb2)
          (try clear hk)
          (try clear hi)
          refine hK.out _ _ ⟨((HB.out.cell (World.block_lt_of_cell? w _ hw387_0)).trans hw387_0),((HB.out.cell (World.block_lt_of_cell? w _ hw387_1)).trans hw387_1),((HB.out.cell (World.block_lt_of_cell? w _ hw387_2)).trans hw387_2),((HB.out.cell (World.block_lt_of_cell? w _ hw387_3)).trans hw387_3),((HB.out.cell (World.block_lt_of_cell? w _ hw387_4)).trans hw387_4),((HB.out.cell (World.block_lt_of_cell? w _ hw387_5)).trans hw387_5),((HB.out.cell (World.block_lt_of_cell? w _ hw389_0)).trans hw389_0),((HB.out.cell (World.block_lt_of_cell? w _ hw389_1)).trans hw389_1),((HB.out.cell (World.block_lt_of_cell? w _ hw389_2)).trans hw389_2),((HB.out.cell (World.block_lt_of_cell? w _ hw389_3)).trans hw389_3),((HB.out.cell (World.block_lt_of_cell? w _ hw389_4)).trans hw389_4),((HB.out.cell (World.block_lt_of_cell? w _ hw389_5)).trans hw389_5),((HB.out.cell (World.block_lt_of_cell? w _ hw390_0)).trans hw390_0),((HB.out.cell (World.block_lt_of_cell? w _ hw390_1)).trans hw390_1),((HB.out.cell (World.block_lt_of_cell? w _ hw390_2)).trans hw390_2),((HB.out.cell (World.block_lt_of_cell? w _ hw390_3)).trans hw390_3),((HB.out.cell (World.block_lt_of_cell? w _ hw390_4)).trans hw390_4),((HB.out.cell (World.block_lt_of_cell? w _ hw390_5)).trans hw390_5)⟩ (fun hHeld=>?_)
          clear hK K
          refine norm_ (a':=?_) ?_ ?_
          rotate_left
          ·show Act.put _ (some 14) _ = _
           simp only [Act.put,setIfInBounds_toArray,set_cons_zero,set_cons_succ,i64_w,i32_w]
           rfl
          refine pure_ (i:=5) (N:=some 15) (v:=?_) (a':=?_) #[true,true,true,true,true,true,false,false,false,false,false,false,false,false,false,false,false,false,false,false,false,false,false,false] rfl rfl (any_of HT_.out (by kernel_rfl)) (fun _ _ _ h=>h) (Or.inl ⟨by rfl,?_⟩) ?_ ?_
          rotate_left
          ·intro w'
           go_simp
           with_reducible rfl
          rotate_left
          ·simp only [Act.put,setIfInBounds_toArray,set_cons_zero,set_cons_succ,i64_w,i32_w]
           rfl
          refine pure_ (i:=6) (N:=some 16) (v:=?_) (a':=?_) #[true,true,true,true,true,true,true,false,false,false,false,false,false,false,false,false,false,false,false,false,false,false,false,false] rfl rfl (any_of HT_.out (by kernel_rfl)) (fun _ _ _ h=>h) (Or.inl ⟨by rfl,?_⟩) ?_ ?_
          rotate_left
          ·intro w'
           go_simp
           with_reducible rfl
          rotate_left
          ·simp only [Act.put,setIfInBounds_toArray,set_cons_zero,set_cons_succ,i64_w,i32_w]
           rfl
          refine pure_ (i:=7) (N:=some 17) (v:=?_) (a':=?_) #[true,true,true,true,true,true,true,true,false,false,false,false,false,false,false,false,false,false,false,false,false,false,false,false] rfl rfl (any_of HT_.out (by kernel_rfl)) (fun _ _ _ h=>h) (Or.inl ⟨by rfl,?_⟩) ?_ ?_
          rotate_left
          ·intro w'
           go_simp
           with_reducible rfl
          rotate_left
          ·simp only [Act.put,setIfInBounds_toArray,set_cons_zero,set_cons_succ,i64_w,i32_w]
           rfl
          refine pure_ (i:=8) (N:=some 18) (v:=?_) (a':=?_) #[true,true,true,true,true,true,true,true,true,false,false,false,false,false,false,false,false,false,false,false,false,false,false,false] rfl rfl (any_of HT_.out (by kernel_rfl)) (fun _ _ _ h=>h) (Or.inl ⟨by rfl,?_⟩) ?_ ?_
          rotate_left
          ·intro w'
           go_simp
           with_reducible rfl
          rotate_left
          ·simp only [Act.put,setIfInBounds_toArray,set_cons_zero,set_cons_succ,i64_w,i32_w]
           rfl
          refine pure_ (i:=9) (N:=some 19) (v:=?_) (a':=?_) #[true,true,true,true,true,true,true,true,true,true,false,false,false,false,false,false,false,false,false,false,false,false,false,false] rfl rfl (any_of HT_.out (by kernel_rfl)) (fun _ _ _ h=>h) (Or.inl ⟨by rfl,?_⟩) ?_ ?_
          rotate_left
          ·intro w'
           go_simp
           with_reducible rfl
          rotate_left
          ·simp only [Act.put,setIfInBounds_toArray,set_cons_zero,set_cons_succ,i64_w,i32_w]
           rfl
          refine pure_ (i:=10) (N:=some 20) (v:=?_) (a':=?_) #[true,true,true,true,true,true,true,true,true,true,true,false,false,false,false,false,false,false,false,false,false,false,false,false] rfl rfl (any_of HT_.out (by kernel_rfl)) (fun _ _ _ h=>h) (Or.inl ⟨by rfl,?_⟩) ?_ ?_
          rotate_left
          ·intro w'
           go_simp
           with_reducible rfl
          rotate_left
          ·simp only [Act.put,setIfInBounds_toArray,set_cons_zero,set_cons_succ,i64_w,i32_w]
           rfl
          refine pure_ (i:=11) (N:=some 21) (v:=?_) (a':=?_) #[true,true,true,true,true,true,true,true,true,true,true,true,false,false,false,false,false,false,false,false,false,false,false,false] rfl rfl (any_of HT_.out (by kernel_rfl)) (fun _ _ _ h=>h) (Or.inl ⟨by rfl,?_⟩) ?_ ?_
          rotate_left
          ·intro w'
           go_simp
           with_reducible rfl
          rotate_left
          ·simp only [Act.put,setIfInBounds_toArray,set_cons_zero,set_cons_succ,i64_w,i32_w]
           rfl
          refine pure_ (i:=12) (N:=some 22) (v:=?_) (a':=?_) #[true,true,true,true,true,true,true,true,true,true,true,true,true,false,false,false,false,false,false,false,false,false,false,false] rfl rfl (any_of HT_.out (by kernel_rfl)) (fun _ _ _ h=>h) (Or.inl ⟨by rfl,?_⟩) ?_ ?_
          rotate_left
          ·intro w'
           go_simp
           with_reducible rfl
          rotate_left
          ·simp only [Act.put,setIfInBounds_toArray,set_cons_zero,set_cons_succ,i64_w,i32_w]
           rfl
          refine pure_ (i:=13) (N:=some 23) (v:=?_) (a':=?_) #[true,true,true,true,true,true,true,true,true,true,true,true,true,true,false,false,false,false,false,false,false,false,false,false] rfl rfl (any_of HT_.out (by kernel_rfl)) (fun _ _ _ h=>h) (Or.inl ⟨by rfl,?_⟩) ?_ ?_
          rotate_left
          ·intro w'
           go_simp
           with_reducible rfl
          rotate_left
          ·simp only [Act.put,setIfInBounds_toArray,set_cons_zero,set_cons_succ,i64_w,i32_w]
           rfl
          refine pure_ (i:=14) (N:=some 24) (v:=?_) (a':=?_) #[true,true,true,true,true,true,true,true,true,true,true,true,true,true,true,false,false,false,false,false,false,false,false,false] rfl rfl (any_of HT_.out (by kernel_rfl)) (fun _ _ _ h=>h) (Or.inl ⟨by rfl,?_⟩) ?_ ?_
          rotate_left
          ·intro w'
           go_simp
           with_reducible rfl
          rotate_left
          ·simp only [Act.put,setIfInBounds_toArray,set_cons_zero,set_cons_succ,i64_w,i32_w]
           rfl
          refine pure_ (i:=16) (N:=some 26) (v:=?_) (a':=?_) #[true,true,true,true,true,true,true,true,true,true,true,true,true,true,true,false,true,false,false,false,false,false,false,false] rfl rfl (any_of HT_.out (by kernel_rfl)) (fun _ _ _ h=>h) (Or.inl ⟨by rfl,?_⟩) ?_ ?_
          rotate_left
          ·intro w'
           go_simp
           with_reducible rfl
          rotate_left
          ·simp only [Act.put,setIfInBounds_toArray,set_cons_zero,set_cons_succ,i64_w,i32_w]
           rfl
          refine pure_ (i:=17) (N:=some 27) (v:=?_) (a':=?_) #[true,true,true,true,true,true,true,true,true,true,true,true,true,true,true,false,true,true,false,false,false,false,false,false] rfl rfl (any_of HT_.out (by kernel_rfl)) (fun _ _ _ h=>h) (Or.inl ⟨by rfl,?_⟩) ?_ ?_
          rotate_left
          ·intro w'
           go_simp
           with_reducible rfl
          rotate_left
          ·simp only [Act.put,setIfInBounds_toArray,set_cons_zero,set_cons_succ,i64_w,i32_w]
           rfl
          refine pure_ (i:=18) (N:=some 28) (v:=?_) (a':=?_) #[true,true,true,true,true,true,true,true,true,true,true,true,true,true,true,false,true,true,true,false,false,false,false,false] rfl rfl (any_of HT_.out (by kernel_rfl)) (fun _ _ _ h=>h) (Or.inl ⟨by rfl,?_⟩) ?_ ?_
          rotate_left
          ·intro w'
           go_simp
           with_reducible rfl
          rotate_left
          ·simp only [Act.put,setIfInBounds_toArray,set_cons_zero,set_cons_succ,i64_w,i32_w]
           rfl
          refine pure_ (i:=19) (N:=some 29) (v:=?_) (a':=?_) #[true,true,true,true,true,true,true,true,true,true,true,true,true,true,true,false,true,true,true,true,false,false,false,false] rfl rfl (any_of HT_.out (by kernel_rfl)) (fun _ _ _ h=>h) (Or.inl ⟨by rfl,?_⟩) ?_ ?_
          rotate_left
          ·intro w'
           go_simp
           with_reducible rfl
          rotate_left
          ·simp only [Act.put,setIfInBounds_toArray,set_cons_zero,set_cons_succ,i64_w,i32_w]
           rfl
          refine take_ (i:=15) (N:=some 25) (v:=?_) (a':=?_) #[true,true,true,true,true,true,true,true,true,true,true,true,true,true,true,true,true,true,true,true,false,false,false,false] rfl rfl (take_ofW HT_.out HW_.out (by kernel_rfl)) (fun _ _ _ h=>h) (Or.inl ⟨by rfl,?_⟩) hHeld ?_ ?_
          rotate_left
          ·rintro w' ⟨s0,s1,s2,s3,s4,s5,s6,s7,s8,s9,s10,s11,s12,s13,s14,s15,s16,s17⟩
           go_simp
           with_reducible rfl
          rotate_left
          ·simp only [Act.put,setIfInBounds_toArray,set_cons_zero,set_cons_succ,i64_w,i32_w]
           rfl
          refine take_ (i:=20) (N:=some 30) (v:=?_) (a':=?_) #[true,true,true,true,true,true,true,true,true,true,true,true,true,true,true,true,true,true,true,true,true,false,false,false] rfl rfl (take_ofW HT_.out HW_.out (by kernel_rfl)) (fun _ _ _ h=>h) (Or.inl ⟨by rfl,?_⟩) hHeld ?_ ?_
          rotate_left
          ·rintro w' ⟨s0,s1,s2,s3,s4,s5,s6,s7,s8,s9,s10,s11,s12,s13,s14,s15,s16,s17⟩
           go_simp
           with_reducible rfl
          rotate_left
          ·simp only [Act.put,setIfInBounds_toArray,set_cons_zero,set_cons_succ,i64_w,i32_w]
           rfl
          refine pure_ (i:=21) (N:=some 31) (v:=?_) (a':=?_) #[true,true,true,true,true,true,true,true,true,true,true,true,true,true,true,true,true,true,true,true,true,true,false,false] rfl rfl (any_of HT_.out (by kernel_rfl)) (fun _ _ _ h=>h) (Or.inl ⟨by rfl,?_⟩) ?_ ?_
          rotate_left
          ·intro w'
           go_simp
           with_reducible rfl
          rotate_left
          ·simp only [Act.put,setIfInBounds_toArray,set_cons_zero,set_cons_succ,i64_w,i32_w]
           rfl
          refine pure_ (i:=22) (N:=some 32) (v:=?_) (a':=?_) #[true,true,true,true,true,true,true,true,true,true,true,true,true,true,true,true,true,true,true,true,true,true,true,false] rfl rfl (any_of HT_.out (by kernel_rfl)) (fun _ _ _ h=>h) (Or.inl ⟨by rfl,?_⟩) ?_ ?_
          rotate_left
          ·intro w'
           go_simp
           with_reducible rfl
          rotate_left
          ·simp only [Act.put,setIfInBounds_toArray,set_cons_zero,set_cons_succ,i64_w,i32_w]
           rfl
          refine pure_ (i:=23) (N:=some 33) (v:=?_) (a':=?_) #[true,true,true,true,true,true,true,true,true,true,true,true,true,true,true,true,true,true,true,true,true,true,true,true] rfl rfl (any_of HT_.out (by kernel_rfl)) (fun _ _ _ h=>h) (Or.inl ⟨by rfl,?_⟩) ?_ ?_
          rotate_left
          ·intro w'
           go_simp
           with_reducible rfl
          rotate_left
          ·simp only [Act.put,setIfInBounds_toArray,set_cons_zero,set_cons_succ,i64_w,i32_w]
           rfl
          refine done_ (done_of HT_.out (by kernel_rfl)) ?_
          try go_wp2
          go_roundg k1
          case measure=>have:=HK1.out;omega
          case rel=>exact ⟨(wrap64 (x3_1+1)),(by first|rfl|(simp;done)|(simp [*];done)),H',⟨by have:=HK1.out;omega⟩,⟨by repeat (first|(with_reducible first|exact HB.out|apply below_alloc|apply pw_below_drewN|apply below_drew1)|exact HB.out)⟩⟩
        ·rw [if_neg c9] at H
         exact absurd H (by simp)
       ·rw [if_neg c8] at H
        exact absurd H (by simp)
      ·rw [if_neg c6] at H
       have c6b0:decide (0 < x3_1)=false:=decide_eq_false c6
       clear c6
       have H':=Aside0.mk H
       clear H
       try go_wp2
       have n0_:=Aside0.mk (below_drew1 HB.out)
       clear HB
       have HB:=n0_
       clear n0_
       have p387 : 0 ≤ (x3_1:Int):=of_decide_eq_true (by first|(with_reducible assumption)|assumption)
       have q387:x3_1 < (l0.length:Int):=of_decide_eq_true (by first|(with_reducible assumption)|assumption)
       obtain ⟨ad387,A387_3,c387_3,A387_5,c387_5,e387,hx387_0,hx387_1,hx387_2,hx387_3,hx387_4,hx387_5,hl387_3,hi387_3,hl387_5,hi387_5⟩:=at_T79 HR0.out x3_1 p387 q387
       have hw387_5:=hx387_5
       have hw387_4:=hx387_4
       have hw387_3:=hx387_3
       have hw387_2:=hx387_2
       have hw387_1:=hx387_1
       have hw387_0:=hx387_0
       cases e387
       replace hx387_0:=(HB.out.cell (World.block_lt_of_cell? w _ hx387_0)).trans hx387_0
       replace hx387_1:=(HB.out.cell (World.block_lt_of_cell? w _ hx387_1)).trans hx387_1
       replace hx387_2:=(HB.out.cell (World.block_lt_of_cell? w _ hx387_2)).trans hx387_2
       replace hx387_3:=(HB.out.cell (World.block_lt_of_cell? w _ hx387_3)).trans hx387_3
       replace hx387_4:=(HB.out.cell (World.block_lt_of_cell? w _ hx387_4)).trans hx387_4
       replace hx387_5:=(HB.out.cell (World.block_lt_of_cell? w _ hx387_5)).trans hx387_5
       have HR387_3:=Aside0.mk hi387_3
       have HC387_3:=Aside0.mk hl387_3
       clear hi387_3 hl387_3
       have HR387_5:=Aside0.mk hi387_5
       have HC387_5:=Aside0.mk hl387_5
       clear hi387_5 hl387_5
       replace p387:=eq_true p387
       replace q387:=eq_true q387
       refine start_ (n:=24) (S:=fun w'=>w'.cell? (ad387.add ((x3_1).toNat * 6))=some (.int .i64 ((rd_T79 l0 x3_1).f0))∧w'.cell? ⟨(ad387.add ((x3_1).toNat * 6)).block,(ad387.add ((x3_1).toNat * 6)).off+1,none⟩=some (.int .i64 ((rd_T79 l0 x3_1).f1))∧w'.cell? ⟨(ad387.add ((x3_1).toNat * 6)).block,(ad387.add ((x3_1).toNat * 6)).off+2,none⟩=some (.bool ((rd_T79 l0 x3_1).f2))∧w'.cell? ⟨(ad387.add ((x3_1).toNat * 6)).block,(ad387.add ((x3_1).toNat * 6)).off+3,none⟩=some (.slice A387_3 ((rd_T79 l0 x3_1).f3).length c387_3)∧w'.cell? ⟨(ad387.add ((x3_1).toNat * 6)).block,(ad387.add ((x3_1).toNat * 6)).off+4,none⟩=some (.bool ((rd_T79 l0 x3_1).f4))∧w'.cell? ⟨(ad387.add ((x3_1).toNat * 6)).block,(ad387.add ((x3_1).toNat * 6)).off+5,none⟩=some (.slice A387_5 ((rd_T79 l0 x3_1).f5).length c387_5)) (ds:=[]) #[false,false,false,false,false,false,false,false,false,false,false,false,false,false,false,false,false,false,false,false,false,false,false,false] (by kernel_rfl) rfl rfl ⟨((HB.out.cell (World.block_lt_of_cell? w _ hw387_0)).trans hw387_0),((HB.out.cell (World.block_lt_of_cell? w _ hw387_1)).trans hw387_1),((HB.out.cell (World.block_lt_of_cell? w _ hw387_2)).trans hw387_2),((HB.out.cell (World.block_lt_of_cell? w _ hw387_3)).trans hw387_3),((HB.out.cell (World.block_lt_of_cell? w _ hw387_4)).trans hw387_4),((HB.out.cell (World.block_lt_of_cell? w _ hw387_5)).trans hw387_5)⟩ (fun hHeld=>?_);refine with_tabW spec_l5Records.tab4 spec_l5Records.bits4 (fun HT_ HW_=>?_)
       generalize wr.drew=w15 at HB HR387_3 HR387_5 hx387_0 hx387_1 hx387_2 hx387_3 hx387_4 hx387_5 hHeld ⊢
       refine pure_ (i:=0) (N:=some 10) (v:=?_) (a':=?_) #[true,false,false,false,false,false,false,false,false,false,false,false,false,false,false,false,false,false,false,false,false,false,false,false] rfl rfl (any_of HT_.out (by kernel_rfl)) (fun _ _ _ h=>h) (Or.inl ⟨by rfl,?_⟩) ?_ ?_
       rotate_left
       ·intro w'
        go_simp
        with_reducible rfl
       rotate_left
       ·simp only [Act.put,setIfInBounds_toArray,set_cons_zero,set_cons_succ,i64_w,i32_w]
        rfl
       refine pure_ (i:=1) (N:=some 11) (v:=?_) (a':=?_) #[true,true,false,false,false,false,false,false,false,false,false,false,false,false,false,false,false,false,false,false,false,false,false,false] rfl rfl (any_of HT_.out (by kernel_rfl)) (fun _ _ _ h=>h) (Or.inl ⟨by rfl,?_⟩) ?_ ?_
       rotate_left
       ·intro w'
        go_simp
        with_reducible rfl
       rotate_left
       ·simp only [Act.put,setIfInBounds_toArray,set_cons_zero,set_cons_succ,i64_w,i32_w]
        rfl
       refine pure_ (i:=2) (N:=some 12) (v:=?_) (a':=?_) #[true,true,true,false,false,false,false,false,false,false,false,false,false,false,false,false,false,false,false,false,false,false,false,false] rfl rfl (any_of HT_.out (by kernel_rfl)) (fun _ _ _ h=>h) (Or.inl ⟨by rfl,?_⟩) ?_ ?_
       rotate_left
       ·intro w'
        go_simp
        with_reducible rfl
       rotate_left
       ·simp only [Act.put,setIfInBounds_toArray,set_cons_zero,set_cons_succ,i64_w,i32_w]
        rfl
       refine take_ (i:=3) (N:=some 13) (v:=?_) (a':=?_) #[true,true,true,true,false,false,false,false,false,false,false,false,false,false,false,false,false,false,false,false,false,false,false,false] rfl rfl (take_ofW HT_.out HW_.out (by kernel_rfl)) (fun _ _ _ h=>h) (Or.inl ⟨by rfl,?_⟩) hHeld ?_ ?_
       rotate_left
       ·rintro w' ⟨s0,s1,s2,s3,s4,s5⟩
        go_simp
        with_reducible rfl
       rotate_left
       ·simp only [Act.put,setIfInBounds_toArray,set_cons_zero,set_cons_succ,i64_w,i32_w]
        rfl
       refine one_ (i:=4) (N:=some 14) #[true,true,true,true,true,false,false,false,false,false,false,false,false,false,false,false,false,false,false,false,false,false,false,false] rfl rfl (one_of HT_.out (by kernel_rfl)) (by decide) (fun K hK=>?_)
       refine goes_ Try.func78 (by kernel_rfl) rfl #[.agg #[.int .i64 ((rd_T79 l0 x3_1).f0),.int .i64 ((rd_T79 l0 x3_1).f1),.bool ((rd_T79 l0 x3_1).f2),.slice A387_3 ((rd_T79 l0 x3_1).f3).length c387_3,.bool ((rd_T79 l0 x3_1).f4),.slice A387_5 ((rd_T79 l0 x3_1).f5).length c387_5]] (by rfl) rfl rfl (by (try simp only [map_toArray,map_cons,map_nil]);first|done|rfl|(simp only [length_drop,length_take];rfl)) ?_
       with_reducible refine (spec_RecordValid.calls k1 ((rd_T79 l0 x3_1).f0) ((rd_T79 l0 x3_1).f1) ((rd_T79 l0 x3_1).f2) _ _ ((rd_T79 l0 x3_1).f3) ((rd_T79 l0 x3_1).f4) _ _ ((rd_T79 l0 x3_1).f5) true _ ?side1 ?side2 ?side3 ?side4 A4.out).mono ?_
       (case side1=>repeat (first|exact (Kd.C_below HR387_3.out HB.out)|(with_reducible refine Kd.C_alloc ?_ _)|(with_reducible refine Kd.C_drewN ?_ _)|(with_reducible refine Kd.C_drew ?_)))
       (case side2=>exact HC387_3.out)
       (case side3=>repeat (first|exact (Kd.C_below HR387_5.out HB.out)|(with_reducible refine Kd.C_alloc ?_ _)|(with_reducible refine Kd.C_drewN ?_ _)|(with_reducible refine Kd.C_drew ?_)))
       (case side4=>exact HC387_5.out)
       rintro e w16 ⟨rfl,hb⟩
       refine ⟨_,rfl,?_⟩
       have n0_:=Aside0.mk (below_step (by repeat (first|(with_reducible first|exact HB.out|apply below_alloc|apply pw_below_drewN|apply below_drew1)|exact HB.out)) hb)
       clear HB
       have HB:=n0_
       clear n0_
       (try clear hb)
       (try clear hb2)
       (try clear hk)
       (try clear hi)
       refine hK.out _ _ ⟨((HB.out.cell (World.block_lt_of_cell? w _ hw387_0)).trans hw387_0),((HB.out.cell (World.block_lt_of_cell? w _ hw387_1)).trans hw387_1),((HB.out.cell (World.block_lt_of_cell? w _ hw387_2)).trans hw387_2),((HB.out.cell (World.block_lt_of_cell? w _ hw387_3)).trans hw387_3),((HB.out.cell (World.block_lt_of_cell? w _ hw387_4)).trans hw387_4),((HB.out.cell (World.block_lt_of_cell? w _ hw387_5)).trans hw387_5)⟩ (fun hHeld=>?_)
       clear hK K
       refine norm_ (a':=?_) ?_ ?_
       rotate_left
       ·show Act.put _ (some 14) _ = _
        simp only [Act.put,setIfInBounds_toArray,set_cons_zero,set_cons_succ,i64_w,i32_w]
        rfl
       refine pure_ (i:=5) (N:=some 15) (v:=?_) (a':=?_) #[true,true,true,true,true,true,false,false,false,false,false,false,false,false,false,false,false,false,false,false,false,false,false,false] rfl rfl (any_of HT_.out (by kernel_rfl)) (fun _ _ _ h=>h) (Or.inl ⟨by rfl,?_⟩) ?_ ?_
       rotate_left
       ·intro w'
        go_simp
        with_reducible rfl
       rotate_left
       ·simp only [Act.put,setIfInBounds_toArray,set_cons_zero,set_cons_succ,i64_w,i32_w]
        rfl
       refine pure_ (i:=6) (N:=some 16) (v:=?_) (a':=?_) #[true,true,true,true,true,true,true,false,false,false,false,false,false,false,false,false,false,false,false,false,false,false,false,false] rfl rfl (any_of HT_.out (by kernel_rfl)) (fun _ _ _ h=>h) (Or.inl ⟨by rfl,?_⟩) ?_ ?_
       rotate_left
       ·intro w'
        go_simp
        with_reducible rfl
       rotate_left
       ·simp only [Act.put,setIfInBounds_toArray,set_cons_zero,set_cons_succ,i64_w,i32_w]
        rfl
       refine pure_ (i:=7) (N:=some 17) (v:=?_) (a':=?_) #[true,true,true,true,true,true,true,true,false,false,false,false,false,false,false,false,false,false,false,false,false,false,false,false] rfl rfl (any_of HT_.out (by kernel_rfl)) (fun _ _ _ h=>h) (Or.inl ⟨by rfl,?_⟩) ?_ ?_
       rotate_left
       ·intro w'
        go_simp
        with_reducible rfl
       rotate_left
       ·simp only [Act.put,setIfInBounds_toArray,set_cons_zero,set_cons_succ,i64_w,i32_w]
        rfl
       refine pure_ (i:=8) (N:=some 18) (v:=?_) (a':=?_) #[true,true,true,true,true,true,true,true,true,false,false,false,false,false,false,false,false,false,false,false,false,false,false,false] rfl rfl (any_of HT_.out (by kernel_rfl)) (fun _ _ _ h=>h) (Or.inl ⟨by rfl,?_⟩) ?_ ?_
       rotate_left
       ·intro w'
        go_simp
        with_reducible rfl
       rotate_left
       ·simp only [Act.put,setIfInBounds_toArray,set_cons_zero,set_cons_succ,i64_w,i32_w]
        rfl
       refine pure_ (i:=9) (N:=some 19) (v:=?_) (a':=?_) #[true,true,true,true,true,true,true,true,true,true,false,false,false,false,false,false,false,false,false,false,false,false,false,false] rfl rfl (any_of HT_.out (by kernel_rfl)) (fun _ _ _ h=>h) (Or.inl ⟨by rfl,?_⟩) ?_ ?_
       rotate_left
       ·intro w'
        go_simp
        with_reducible rfl
       rotate_left
       ·simp only [Act.put,setIfInBounds_toArray,set_cons_zero,set_cons_succ,i64_w,i32_w]
        rfl
       refine pure_ (i:=10) (N:=some 20) (v:=undef) (a':=?_) #[true,true,true,true,true,true,true,true,true,true,true,false,false,false,false,false,false,false,false,false,false,false,false,false] rfl rfl (any_of HT_.out (by kernel_rfl)) (fun _ _ _ h=>h) (Or.inr ⟨by rfl,rfl⟩) ?_ ?_
       rotate_left
       ·simp only [Act.put,setIfInBounds_toArray,set_cons_zero,set_cons_succ,i64_w,i32_w]
        rfl
       refine pure_ (i:=11) (N:=some 21) (v:=undef) (a':=?_) #[true,true,true,true,true,true,true,true,true,true,true,true,false,false,false,false,false,false,false,false,false,false,false,false] rfl rfl (any_of HT_.out (by kernel_rfl)) (fun _ _ _ h=>h) (Or.inr ⟨by rfl,rfl⟩) ?_ ?_
       rotate_left
       ·simp only [Act.put,setIfInBounds_toArray,set_cons_zero,set_cons_succ,i64_w,i32_w]
        rfl
       refine pure_ (i:=12) (N:=some 22) (v:=undef) (a':=?_) #[true,true,true,true,true,true,true,true,true,true,true,true,true,false,false,false,false,false,false,false,false,false,false,false] rfl rfl (any_of HT_.out (by kernel_rfl)) (fun _ _ _ h=>h) (Or.inr ⟨by rfl,rfl⟩) ?_ ?_
       rotate_left
       ·simp only [Act.put,setIfInBounds_toArray,set_cons_zero,set_cons_succ,i64_w,i32_w]
        rfl
       refine pure_ (i:=13) (N:=some 23) (v:=undef) (a':=?_) #[true,true,true,true,true,true,true,true,true,true,true,true,true,true,false,false,false,false,false,false,false,false,false,false] rfl rfl (any_of HT_.out (by kernel_rfl)) (fun _ _ _ h=>h) (Or.inr ⟨by rfl,rfl⟩) ?_ ?_
       rotate_left
       ·simp only [Act.put,setIfInBounds_toArray,set_cons_zero,set_cons_succ,i64_w,i32_w]
        rfl
       refine pure_ (i:=14) (N:=some 24) (v:=undef) (a':=?_) #[true,true,true,true,true,true,true,true,true,true,true,true,true,true,true,false,false,false,false,false,false,false,false,false] rfl rfl (any_of HT_.out (by kernel_rfl)) (fun _ _ _ h=>h) (Or.inr ⟨by rfl,rfl⟩) ?_ ?_
       rotate_left
       ·simp only [Act.put,setIfInBounds_toArray,set_cons_zero,set_cons_succ,i64_w,i32_w]
        rfl
       refine pure_ (i:=15) (N:=some 25) (v:=undef) (a':=?_) #[true,true,true,true,true,true,true,true,true,true,true,true,true,true,true,true,false,false,false,false,false,false,false,false] rfl rfl (any_of HT_.out (by kernel_rfl)) (fun _ _ _ h=>h) (Or.inr ⟨by rfl,rfl⟩) ?_ ?_
       rotate_left
       ·simp only [Act.put,setIfInBounds_toArray,set_cons_zero,set_cons_succ,i64_w,i32_w]
        rfl
       refine pure_ (i:=16) (N:=some 26) (v:=undef) (a':=?_) #[true,true,true,true,true,true,true,true,true,true,true,true,true,true,true,true,true,false,false,false,false,false,false,false] rfl rfl (any_of HT_.out (by kernel_rfl)) (fun _ _ _ h=>h) (Or.inr ⟨by rfl,rfl⟩) ?_ ?_
       rotate_left
       ·simp only [Act.put,setIfInBounds_toArray,set_cons_zero,set_cons_succ,i64_w,i32_w]
        rfl
       refine pure_ (i:=17) (N:=some 27) (v:=undef) (a':=?_) #[true,true,true,true,true,true,true,true,true,true,true,true,true,true,true,true,true,true,false,false,false,false,false,false] rfl rfl (any_of HT_.out (by kernel_rfl)) (fun _ _ _ h=>h) (Or.inr ⟨by rfl,rfl⟩) ?_ ?_
       rotate_left
       ·simp only [Act.put,setIfInBounds_toArray,set_cons_zero,set_cons_succ,i64_w,i32_w]
        rfl
       refine pure_ (i:=18) (N:=some 28) (v:=undef) (a':=?_) #[true,true,true,true,true,true,true,true,true,true,true,true,true,true,true,true,true,true,true,false,false,false,false,false] rfl rfl (any_of HT_.out (by kernel_rfl)) (fun _ _ _ h=>h) (Or.inr ⟨by rfl,rfl⟩) ?_ ?_
       rotate_left
       ·simp only [Act.put,setIfInBounds_toArray,set_cons_zero,set_cons_succ,i64_w,i32_w]
        rfl
       refine pure_ (i:=19) (N:=some 29) (v:=undef) (a':=?_) #[true,true,true,true,true,true,true,true,true,true,true,true,true,true,true,true,true,true,true,true,false,false,false,false] rfl rfl (any_of HT_.out (by kernel_rfl)) (fun _ _ _ h=>h) (Or.inr ⟨by rfl,rfl⟩) ?_ ?_
       rotate_left
       ·simp only [Act.put,setIfInBounds_toArray,set_cons_zero,set_cons_succ,i64_w,i32_w]
        rfl
       refine pure_ (i:=20) (N:=some 30) (v:=undef) (a':=?_) #[true,true,true,true,true,true,true,true,true,true,true,true,true,true,true,true,true,true,true,true,true,false,false,false] rfl rfl (any_of HT_.out (by kernel_rfl)) (fun _ _ _ h=>h) (Or.inr ⟨by rfl,rfl⟩) ?_ ?_
       rotate_left
       ·simp only [Act.put,setIfInBounds_toArray,set_cons_zero,set_cons_succ,i64_w,i32_w]
        rfl
       refine pure_ (i:=21) (N:=some 31) (v:=undef) (a':=?_) #[true,true,true,true,true,true,true,true,true,true,true,true,true,true,true,true,true,true,true,true,true,true,false,false] rfl rfl (any_of HT_.out (by kernel_rfl)) (fun _ _ _ h=>h) (Or.inr ⟨by rfl,rfl⟩) ?_ ?_
       rotate_left
       ·simp only [Act.put,setIfInBounds_toArray,set_cons_zero,set_cons_succ,i64_w,i32_w]
        rfl
       refine pure_ (i:=22) (N:=some 32) (v:=?_) (a':=?_) #[true,true,true,true,true,true,true,true,true,true,true,true,true,true,true,true,true,true,true,true,true,true,true,false] rfl rfl (any_of HT_.out (by kernel_rfl)) (fun _ _ _ h=>h) (Or.inl ⟨by rfl,?_⟩) ?_ ?_
       rotate_left
       ·intro w'
        go_simp
        with_reducible rfl
       rotate_left
       ·simp only [Act.put,setIfInBounds_toArray,set_cons_zero,set_cons_succ,i64_w,i32_w]
        rfl
       refine pure_ (i:=23) (N:=some 33) (v:=?_) (a':=?_) #[true,true,true,true,true,true,true,true,true,true,true,true,true,true,true,true,true,true,true,true,true,true,true,true] rfl rfl (any_of HT_.out (by kernel_rfl)) (fun _ _ _ h=>h) (Or.inl ⟨by rfl,?_⟩) ?_ ?_
       rotate_left
       ·intro w'
        go_simp
        with_reducible rfl
       rotate_left
       ·simp only [Act.put,setIfInBounds_toArray,set_cons_zero,set_cons_succ,i64_w,i32_w]
        rfl
       refine done_ (done_of HT_.out (by kernel_rfl)) ?_
       try go_wp2
       go_roundg k1
       case measure=>have:=HK1.out;omega
       case rel=>exact ⟨(wrap64 (x3_1+1)),(by first|rfl|(simp;done)|(simp [*];done)),H',⟨by have:=HK1.out;omega⟩,⟨by repeat (first|(with_reducible first|exact HB.out|apply below_alloc|apply pw_below_drewN|apply below_drew1)|exact HB.out)⟩⟩
     ·replace c5:=Bool.eq_false_iff.mpr c5
      subst c5
      have H1:(some false)=some r:=by rw [if_neg (show ¬ (false=true) by decide)] at H;exact H
      clear H
      have H:=H1
      clear H1
      obtain rfl:=Option.some.inj H
      try go_wp2
      have n0_:=Aside0.mk (below_drew1 HB.out)
      clear HB
      have HB:=n0_
      clear n0_
      have p387 : 0 ≤ (x3_1:Int):=of_decide_eq_true (by first|(with_reducible assumption)|assumption)
      have q387:x3_1 < (l0.length:Int):=of_decide_eq_true (by first|(with_reducible assumption)|assumption)
      obtain ⟨ad387,A387_3,c387_3,A387_5,c387_5,e387,hx387_0,hx387_1,hx387_2,hx387_3,hx387_4,hx387_5,hl387_3,hi387_3,hl387_5,hi387_5⟩:=at_T79 HR0.out x3_1 p387 q387
      have hw387_5:=hx387_5
      have hw387_4:=hx387_4
      have hw387_3:=hx387_3
      have hw387_2:=hx387_2
      have hw387_1:=hx387_1
      have hw387_0:=hx387_0
      cases e387
      replace hx387_0:=(HB.out.cell (World.block_lt_of_cell? w _ hx387_0)).trans hx387_0
      replace hx387_1:=(HB.out.cell (World.block_lt_of_cell? w _ hx387_1)).trans hx387_1
      replace hx387_2:=(HB.out.cell (World.block_lt_of_cell? w _ hx387_2)).trans hx387_2
      replace hx387_3:=(HB.out.cell (World.block_lt_of_cell? w _ hx387_3)).trans hx387_3
      replace hx387_4:=(HB.out.cell (World.block_lt_of_cell? w _ hx387_4)).trans hx387_4
      replace hx387_5:=(HB.out.cell (World.block_lt_of_cell? w _ hx387_5)).trans hx387_5
      have HR387_3:=Aside0.mk hi387_3
      have HC387_3:=Aside0.mk hl387_3
      clear hi387_3 hl387_3
      have HR387_5:=Aside0.mk hi387_5
      have HC387_5:=Aside0.mk hl387_5
      clear hi387_5 hl387_5
      replace p387:=eq_true p387
      replace q387:=eq_true q387
      refine start_ (n:=24) (S:=fun w'=>w'.cell? (ad387.add ((x3_1).toNat * 6))=some (.int .i64 ((rd_T79 l0 x3_1).f0))∧w'.cell? ⟨(ad387.add ((x3_1).toNat * 6)).block,(ad387.add ((x3_1).toNat * 6)).off+1,none⟩=some (.int .i64 ((rd_T79 l0 x3_1).f1))∧w'.cell? ⟨(ad387.add ((x3_1).toNat * 6)).block,(ad387.add ((x3_1).toNat * 6)).off+2,none⟩=some (.bool ((rd_T79 l0 x3_1).f2))∧w'.cell? ⟨(ad387.add ((x3_1).toNat * 6)).block,(ad387.add ((x3_1).toNat * 6)).off+3,none⟩=some (.slice A387_3 ((rd_T79 l0 x3_1).f3).length c387_3)∧w'.cell? ⟨(ad387.add ((x3_1).toNat * 6)).block,(ad387.add ((x3_1).toNat * 6)).off+4,none⟩=some (.bool ((rd_T79 l0 x3_1).f4))∧w'.cell? ⟨(ad387.add ((x3_1).toNat * 6)).block,(ad387.add ((x3_1).toNat * 6)).off+5,none⟩=some (.slice A387_5 ((rd_T79 l0 x3_1).f5).length c387_5)) (ds:=[]) #[false,false,false,false,false,false,false,false,false,false,false,false,false,false,false,false,false,false,false,false,false,false,false,false] (by kernel_rfl) rfl rfl ⟨((HB.out.cell (World.block_lt_of_cell? w _ hw387_0)).trans hw387_0),((HB.out.cell (World.block_lt_of_cell? w _ hw387_1)).trans hw387_1),((HB.out.cell (World.block_lt_of_cell? w _ hw387_2)).trans hw387_2),((HB.out.cell (World.block_lt_of_cell? w _ hw387_3)).trans hw387_3),((HB.out.cell (World.block_lt_of_cell? w _ hw387_4)).trans hw387_4),((HB.out.cell (World.block_lt_of_cell? w _ hw387_5)).trans hw387_5)⟩ (fun hHeld=>?_);refine with_tabW spec_l5Records.tab4 spec_l5Records.bits4 (fun HT_ HW_=>?_)
      generalize wr.drew=w17 at HB HR387_3 HR387_5 hx387_0 hx387_1 hx387_2 hx387_3 hx387_4 hx387_5 hHeld ⊢
      refine pure_ (i:=0) (N:=some 10) (v:=?_) (a':=?_) #[true,false,false,false,false,false,false,false,false,false,false,false,false,false,false,false,false,false,false,false,false,false,false,false] rfl rfl (any_of HT_.out (by kernel_rfl)) (fun _ _ _ h=>h) (Or.inl ⟨by rfl,?_⟩) ?_ ?_
      rotate_left
      ·intro w'
       go_simp
       with_reducible rfl
      rotate_left
      ·simp only [Act.put,setIfInBounds_toArray,set_cons_zero,set_cons_succ,i64_w,i32_w]
       rfl
      refine pure_ (i:=1) (N:=some 11) (v:=?_) (a':=?_) #[true,true,false,false,false,false,false,false,false,false,false,false,false,false,false,false,false,false,false,false,false,false,false,false] rfl rfl (any_of HT_.out (by kernel_rfl)) (fun _ _ _ h=>h) (Or.inl ⟨by rfl,?_⟩) ?_ ?_
      rotate_left
      ·intro w'
       go_simp
       with_reducible rfl
      rotate_left
      ·simp only [Act.put,setIfInBounds_toArray,set_cons_zero,set_cons_succ,i64_w,i32_w]
       rfl
      refine pure_ (i:=2) (N:=some 12) (v:=?_) (a':=?_) #[true,true,true,false,false,false,false,false,false,false,false,false,false,false,false,false,false,false,false,false,false,false,false,false] rfl rfl (any_of HT_.out (by kernel_rfl)) (fun _ _ _ h=>h) (Or.inl ⟨by rfl,?_⟩) ?_ ?_
      rotate_left
      ·intro w'
       go_simp
       with_reducible rfl
      rotate_left
      ·simp only [Act.put,setIfInBounds_toArray,set_cons_zero,set_cons_succ,i64_w,i32_w]
       rfl
      refine take_ (i:=3) (N:=some 13) (v:=?_) (a':=?_) #[true,true,true,true,false,false,false,false,false,false,false,false,false,false,false,false,false,false,false,false,false,false,false,false] rfl rfl (take_ofW HT_.out HW_.out (by kernel_rfl)) (fun _ _ _ h=>h) (Or.inl ⟨by rfl,?_⟩) hHeld ?_ ?_
      rotate_left
      ·rintro w' ⟨s0,s1,s2,s3,s4,s5⟩
       go_simp
       with_reducible rfl
      rotate_left
      ·simp only [Act.put,setIfInBounds_toArray,set_cons_zero,set_cons_succ,i64_w,i32_w]
       rfl
      refine one_ (i:=4) (N:=some 14) #[true,true,true,true,true,false,false,false,false,false,false,false,false,false,false,false,false,false,false,false,false,false,false,false] rfl rfl (one_of HT_.out (by kernel_rfl)) (by decide) (fun K hK=>?_)
      refine goes_ Try.func78 (by kernel_rfl) rfl #[.agg #[.int .i64 ((rd_T79 l0 x3_1).f0),.int .i64 ((rd_T79 l0 x3_1).f1),.bool ((rd_T79 l0 x3_1).f2),.slice A387_3 ((rd_T79 l0 x3_1).f3).length c387_3,.bool ((rd_T79 l0 x3_1).f4),.slice A387_5 ((rd_T79 l0 x3_1).f5).length c387_5]] (by rfl) rfl rfl (by (try simp only [map_toArray,map_cons,map_nil]);first|done|rfl|(simp only [length_drop,length_take];rfl)) ?_
      with_reducible refine (spec_RecordValid.calls k1 ((rd_T79 l0 x3_1).f0) ((rd_T79 l0 x3_1).f1) ((rd_T79 l0 x3_1).f2) _ _ ((rd_T79 l0 x3_1).f3) ((rd_T79 l0 x3_1).f4) _ _ ((rd_T79 l0 x3_1).f5) false _ ?side1 ?side2 ?side3 ?side4 A4.out).mono ?_
      (case side1=>repeat (first|exact (Kd.C_below HR387_3.out HB.out)|(with_reducible refine Kd.C_alloc ?_ _)|(with_reducible refine Kd.C_drewN ?_ _)|(with_reducible refine Kd.C_drew ?_)))
      (case side2=>exact HC387_3.out)
      (case side3=>repeat (first|exact (Kd.C_below HR387_5.out HB.out)|(with_reducible refine Kd.C_alloc ?_ _)|(with_reducible refine Kd.C_drewN ?_ _)|(with_reducible refine Kd.C_drew ?_)))
      (case side4=>exact HC387_5.out)
      rintro e w18 ⟨rfl,hb⟩
      refine ⟨_,rfl,?_⟩
      have n0_:=Aside0.mk (below_step (by repeat (first|(with_reducible first|exact HB.out|apply below_alloc|apply pw_below_drewN|apply below_drew1)|exact HB.out)) hb)
      clear HB
      have HB:=n0_
      clear n0_
      (try clear hb)
      (try clear hb2)
      (try clear hk)
      (try clear hi)
      refine hK.out _ _ ⟨((HB.out.cell (World.block_lt_of_cell? w _ hw387_0)).trans hw387_0),((HB.out.cell (World.block_lt_of_cell? w _ hw387_1)).trans hw387_1),((HB.out.cell (World.block_lt_of_cell? w _ hw387_2)).trans hw387_2),((HB.out.cell (World.block_lt_of_cell? w _ hw387_3)).trans hw387_3),((HB.out.cell (World.block_lt_of_cell? w _ hw387_4)).trans hw387_4),((HB.out.cell (World.block_lt_of_cell? w _ hw387_5)).trans hw387_5)⟩ (fun hHeld=>?_)
      clear hK K
      refine norm_ (a':=?_) ?_ ?_
      rotate_left
      ·show Act.put _ (some 14) _ = _
       simp only [Act.put,setIfInBounds_toArray,set_cons_zero,set_cons_succ,i64_w,i32_w]
       rfl
      refine pure_ (i:=5) (N:=some 15) (v:=?_) (a':=?_) #[true,true,true,true,true,true,false,false,false,false,false,false,false,false,false,false,false,false,false,false,false,false,false,false] rfl rfl (any_of HT_.out (by kernel_rfl)) (fun _ _ _ h=>h) (Or.inl ⟨by rfl,?_⟩) ?_ ?_
      rotate_left
      ·intro w'
       go_simp
       with_reducible rfl
      rotate_left
      ·simp only [Act.put,setIfInBounds_toArray,set_cons_zero,set_cons_succ,i64_w,i32_w]
       rfl
      refine pure_ (i:=6) (N:=some 16) (v:=?_) (a':=?_) #[true,true,true,true,true,true,true,false,false,false,false,false,false,false,false,false,false,false,false,false,false,false,false,false] rfl rfl (any_of HT_.out (by kernel_rfl)) (fun _ _ _ h=>h) (Or.inl ⟨by rfl,?_⟩) ?_ ?_
      rotate_left
      ·intro w'
       go_simp
       with_reducible rfl
      rotate_left
      ·simp only [Act.put,setIfInBounds_toArray,set_cons_zero,set_cons_succ,i64_w,i32_w]
       rfl
      refine pure_ (i:=7) (N:=some 17) (v:=undef) (a':=?_) #[true,true,true,true,true,true,true,true,false,false,false,false,false,false,false,false,false,false,false,false,false,false,false,false] rfl rfl (any_of HT_.out (by kernel_rfl)) (fun _ _ _ h=>h) (Or.inr ⟨by rfl,rfl⟩) ?_ ?_
      rotate_left
      ·simp only [Act.put,setIfInBounds_toArray,set_cons_zero,set_cons_succ,i64_w,i32_w]
       rfl
      refine pure_ (i:=8) (N:=some 18) (v:=undef) (a':=?_) #[true,true,true,true,true,true,true,true,true,false,false,false,false,false,false,false,false,false,false,false,false,false,false,false] rfl rfl (any_of HT_.out (by kernel_rfl)) (fun _ _ _ h=>h) (Or.inr ⟨by rfl,rfl⟩) ?_ ?_
      rotate_left
      ·simp only [Act.put,setIfInBounds_toArray,set_cons_zero,set_cons_succ,i64_w,i32_w]
       rfl
      refine pure_ (i:=9) (N:=some 19) (v:=undef) (a':=?_) #[true,true,true,true,true,true,true,true,true,true,false,false,false,false,false,false,false,false,false,false,false,false,false,false] rfl rfl (any_of HT_.out (by kernel_rfl)) (fun _ _ _ h=>h) (Or.inr ⟨by rfl,rfl⟩) ?_ ?_
      rotate_left
      ·simp only [Act.put,setIfInBounds_toArray,set_cons_zero,set_cons_succ,i64_w,i32_w]
       rfl
      refine pure_ (i:=10) (N:=some 20) (v:=undef) (a':=?_) #[true,true,true,true,true,true,true,true,true,true,true,false,false,false,false,false,false,false,false,false,false,false,false,false] rfl rfl (any_of HT_.out (by kernel_rfl)) (fun _ _ _ h=>h) (Or.inr ⟨by rfl,rfl⟩) ?_ ?_
      rotate_left
      ·simp only [Act.put,setIfInBounds_toArray,set_cons_zero,set_cons_succ,i64_w,i32_w]
       rfl
      refine pure_ (i:=11) (N:=some 21) (v:=undef) (a':=?_) #[true,true,true,true,true,true,true,true,true,true,true,true,false,false,false,false,false,false,false,false,false,false,false,false] rfl rfl (any_of HT_.out (by kernel_rfl)) (fun _ _ _ h=>h) (Or.inr ⟨by rfl,rfl⟩) ?_ ?_
      rotate_left
      ·simp only [Act.put,setIfInBounds_toArray,set_cons_zero,set_cons_succ,i64_w,i32_w]
       rfl
      refine pure_ (i:=12) (N:=some 22) (v:=undef) (a':=?_) #[true,true,true,true,true,true,true,true,true,true,true,true,true,false,false,false,false,false,false,false,false,false,false,false] rfl rfl (any_of HT_.out (by kernel_rfl)) (fun _ _ _ h=>h) (Or.inr ⟨by rfl,rfl⟩) ?_ ?_
      rotate_left
      ·simp only [Act.put,setIfInBounds_toArray,set_cons_zero,set_cons_succ,i64_w,i32_w]
       rfl
      refine pure_ (i:=13) (N:=some 23) (v:=undef) (a':=?_) #[true,true,true,true,true,true,true,true,true,true,true,true,true,true,false,false,false,false,false,false,false,false,false,false] rfl rfl (any_of HT_.out (by kernel_rfl)) (fun _ _ _ h=>h) (Or.inr ⟨by rfl,rfl⟩) ?_ ?_
      rotate_left
      ·simp only [Act.put,setIfInBounds_toArray,set_cons_zero,set_cons_succ,i64_w,i32_w]
       rfl
      refine pure_ (i:=14) (N:=some 24) (v:=undef) (a':=?_) #[true,true,true,true,true,true,true,true,true,true,true,true,true,true,true,false,false,false,false,false,false,false,false,false] rfl rfl (any_of HT_.out (by kernel_rfl)) (fun _ _ _ h=>h) (Or.inr ⟨by rfl,rfl⟩) ?_ ?_
      rotate_left
      ·simp only [Act.put,setIfInBounds_toArray,set_cons_zero,set_cons_succ,i64_w,i32_w]
       rfl
      refine pure_ (i:=15) (N:=some 25) (v:=undef) (a':=?_) #[true,true,true,true,true,true,true,true,true,true,true,true,true,true,true,true,false,false,false,false,false,false,false,false] rfl rfl (any_of HT_.out (by kernel_rfl)) (fun _ _ _ h=>h) (Or.inr ⟨by rfl,rfl⟩) ?_ ?_
      rotate_left
      ·simp only [Act.put,setIfInBounds_toArray,set_cons_zero,set_cons_succ,i64_w,i32_w]
       rfl
      refine pure_ (i:=16) (N:=some 26) (v:=undef) (a':=?_) #[true,true,true,true,true,true,true,true,true,true,true,true,true,true,true,true,true,false,false,false,false,false,false,false] rfl rfl (any_of HT_.out (by kernel_rfl)) (fun _ _ _ h=>h) (Or.inr ⟨by rfl,rfl⟩) ?_ ?_
      rotate_left
      ·simp only [Act.put,setIfInBounds_toArray,set_cons_zero,set_cons_succ,i64_w,i32_w]
       rfl
      refine pure_ (i:=17) (N:=some 27) (v:=undef) (a':=?_) #[true,true,true,true,true,true,true,true,true,true,true,true,true,true,true,true,true,true,false,false,false,false,false,false] rfl rfl (any_of HT_.out (by kernel_rfl)) (fun _ _ _ h=>h) (Or.inr ⟨by rfl,rfl⟩) ?_ ?_
      rotate_left
      ·simp only [Act.put,setIfInBounds_toArray,set_cons_zero,set_cons_succ,i64_w,i32_w]
       rfl
      refine pure_ (i:=18) (N:=some 28) (v:=undef) (a':=?_) #[true,true,true,true,true,true,true,true,true,true,true,true,true,true,true,true,true,true,true,false,false,false,false,false] rfl rfl (any_of HT_.out (by kernel_rfl)) (fun _ _ _ h=>h) (Or.inr ⟨by rfl,rfl⟩) ?_ ?_
      rotate_left
      ·simp only [Act.put,setIfInBounds_toArray,set_cons_zero,set_cons_succ,i64_w,i32_w]
       rfl
      refine pure_ (i:=19) (N:=some 29) (v:=undef) (a':=?_) #[true,true,true,true,true,true,true,true,true,true,true,true,true,true,true,true,true,true,true,true,false,false,false,false] rfl rfl (any_of HT_.out (by kernel_rfl)) (fun _ _ _ h=>h) (Or.inr ⟨by rfl,rfl⟩) ?_ ?_
      rotate_left
      ·simp only [Act.put,setIfInBounds_toArray,set_cons_zero,set_cons_succ,i64_w,i32_w]
       rfl
      refine pure_ (i:=20) (N:=some 30) (v:=undef) (a':=?_) #[true,true,true,true,true,true,true,true,true,true,true,true,true,true,true,true,true,true,true,true,true,false,false,false] rfl rfl (any_of HT_.out (by kernel_rfl)) (fun _ _ _ h=>h) (Or.inr ⟨by rfl,rfl⟩) ?_ ?_
      rotate_left
      ·simp only [Act.put,setIfInBounds_toArray,set_cons_zero,set_cons_succ,i64_w,i32_w]
       rfl
      refine pure_ (i:=21) (N:=some 31) (v:=undef) (a':=?_) #[true,true,true,true,true,true,true,true,true,true,true,true,true,true,true,true,true,true,true,true,true,true,false,false] rfl rfl (any_of HT_.out (by kernel_rfl)) (fun _ _ _ h=>h) (Or.inr ⟨by rfl,rfl⟩) ?_ ?_
      rotate_left
      ·simp only [Act.put,setIfInBounds_toArray,set_cons_zero,set_cons_succ,i64_w,i32_w]
       rfl
      refine pure_ (i:=22) (N:=some 32) (v:=undef) (a':=?_) #[true,true,true,true,true,true,true,true,true,true,true,true,true,true,true,true,true,true,true,true,true,true,true,false] rfl rfl (any_of HT_.out (by kernel_rfl)) (fun _ _ _ h=>h) (Or.inr ⟨by rfl,rfl⟩) ?_ ?_
      rotate_left
      ·simp only [Act.put,setIfInBounds_toArray,set_cons_zero,set_cons_succ,i64_w,i32_w]
       rfl
      refine pure_ (i:=23) (N:=some 33) (v:=?_) (a':=?_) #[true,true,true,true,true,true,true,true,true,true,true,true,true,true,true,true,true,true,true,true,true,true,true,true] rfl rfl (any_of HT_.out (by kernel_rfl)) (fun _ _ _ h=>h) (Or.inl ⟨by rfl,?_⟩) ?_ ?_
      rotate_left
      ·intro w'
       go_simp
       with_reducible rfl
      rotate_left
      ·simp only [Act.put,setIfInBounds_toArray,set_cons_zero,set_cons_succ,i64_w,i32_w]
       rfl
      refine done_ (done_of HT_.out (by kernel_rfl)) ?_
      try go_wp2
      go_ret
      exact ⟨by first|rfl|(simp [errW_none,errW_some] <;> rfl)|(simp [*,errW_none,errW_some] <;> rfl),by repeat (first|(with_reducible first|exact HB.out|apply below_alloc|apply pw_below_drewN|apply below_drew1)|exact HB.out)⟩
    ·rw [if_neg c3] at H
     exact absurd H (by simp)
   ·rw [if_neg c2] at H
    have c2b0:decide (x3_1 < (l0.length:Int))=false:=decide_eq_false c2
    clear c2
    replace H:=Option.bind_eq_some_iff.mp H
    obtain ⟨t391,A190,H⟩:=H
    replace H:(some t391)=some r:=H
    have A19:=Aside0.mk A190
    clear A190
    obtain rfl:=Option.some.inj H
    go_wp2_with (first|((with_reducible refine gate_callee (f:=53) rfl ?_);refine goesL_ (some 36) rfl rfl Try.func53 (by kernel_rfl) rfl #[.int .i64 (l0.length:Int),.int .i64 1,.int .i64 6] rfl (by (try simp only [map_toArray,map_cons,map_nil]);first|done|rfl|(simp only [length_drop,length_take];rfl)) ?_;(with_reducible refine (spec_l6In.calls (l0.length:Int) 1 6 t391 _ A19.out).mono ?_);rintro e w' ⟨rfl,⟨nd,rfl⟩⟩;refine ⟨_,rfl,?_⟩))
    go_ret
    exact ⟨by first|rfl|(simp [errW_none,errW_some] <;> rfl)|(simp [*,errW_none,errW_some] <;> rfl),by repeat (first|(with_reducible first|exact HB.out|apply below_alloc|apply pw_below_drewN|apply below_drew1)|exact HB.out)⟩
end Go.Proofs.Ytkhmopmfbocokaa.T
namespace Go.Proofs.Ytkhmopmfbocokaa.T
open Go.RowKit Go.Proofs.YtkhmopmfbocokaaW.PrintWords Go.Proofs.YtkhmopmfbocokaaW.PrintLast Go.Proofs.YtkhmopmfbocokaaW.PrintMore
attribute [local go_sem] max2_int max_two
set_option linter.unusedVariables false
set_option linter.unusedSimpArgs false
def spec_BatchValid.j0:Nat→Bool→Bool→Bool→Int→Int→Int→List (S79)→Option (Bool)
 | 0,_,_,_,_,_,_,_=>none
 | k+1,x24,x393000,x393001,x393002,x393003,x393004,x393005=>if x24=true then (some false) else (if x393002=255 then (if x393003=0 then (if x393004=0 then (some (!x393001)) else (some false)) else (some false)) else (if x393001=true then (some ((x393005.length:Int) == 1)) else (some true)))
def spec_BatchValid.f (k:Nat) (a0_0:Bool) (a0_1:Bool) (a0_2:Int) (a0_3:Int) (a0_4:Int) (l0_5:List (S79)):Option (Bool):=(spec_l5Records.f k l0_5).bind fun t393=>(if t393=true then ((spec_l6In.f a0_2 0 255).bind fun t394=>(if t394=true then ((spec_l6In.f a0_3 0 99).bind fun t395=>(if t395=true then ((spec_l6In.f a0_4 0 9999).bind fun t396=>(spec_BatchValid.j0 k (!t396) a0_0 a0_1 a0_2 a0_3 a0_4 l0_5)) else (spec_BatchValid.j0 k true a0_0 a0_1 a0_2 a0_3 a0_4 l0_5))) else (spec_BatchValid.j0 k true a0_0 a0_1 a0_2 a0_3 a0_4 l0_5))) else (spec_BatchValid.j0 k true a0_0 a0_1 a0_2 a0_3 a0_4 l0_5))
set_option maxHeartbeats 8000000 in
set_option maxRecDepth 100000 in
theorem spec_BatchValid.calls (k:Nat) (a0_0:Bool) (a0_1:Bool) (a0_2:Int) (a0_3:Int) (a0_4:Int) (A0_5:Option Addr) (c0_5:Nat) (l0_5:List (S79)) (r:Bool) (w:World) (hr0_5:Kd.C k79 w A0_5 l0_5.length l0_5) (hc0_5:l0_5.length ≤ c0_5) (h:spec_BatchValid.f k a0_0 a0_1 a0_2 a0_3 a0_4 l0_5=some r) :
  Calls Try.prog 59 #[.agg #[.bool a0_0,.bool a0_1,.int .i64 a0_2,.int .i64 a0_3,.int .i64 a0_4,.slice A0_5 l0_5.length c0_5]] w fun e w'=>e = .returned (.bool r)∧Below w.heap.size w w':=by
 have hu34:=Try.underlying34
 have HR0_5:=Aside0.mk hr0_5
 have HC0_5:=Aside0.mk hc0_5
 clear hr0_5 hc0_5
 have HB:=Aside0.mk (Below.refl w.heap.size w)
 have H:((spec_l5Records.f k l0_5).bind fun t393=>(if t393=true then ((spec_l6In.f a0_2 0 255).bind fun t394=>(if t394=true then ((spec_l6In.f a0_3 0 99).bind fun t395=>(if t395=true then ((spec_l6In.f a0_4 0 9999).bind fun t396=>(spec_BatchValid.j0 k (!t396) a0_0 a0_1 a0_2 a0_3 a0_4 l0_5)) else (spec_BatchValid.j0 k true a0_0 a0_1 a0_2 a0_3 a0_4 l0_5))) else (spec_BatchValid.j0 k true a0_0 a0_1 a0_2 a0_3 a0_4 l0_5))) else (spec_BatchValid.j0 k true a0_0 a0_1 a0_2 a0_3 a0_4 l0_5)))=some r:=h
 clear h
 have HC2:=Aside0.mk H
 clear H
 go_enter Try.func59,Try.ntmps59
 go_upto_region 1 with (first|((with_reducible refine gate_dst (N:=1) rfl ?_);(try (refine gate_guard (by rfl) ?_;dsimp only));refine box_event ?hg (N:=1) ?hd (cs:=#[.bool a0_0,.bool a0_1,.int .i64 a0_2,.int .i64 a0_3,.int .i64 a0_4,.slice A0_5 l0_5.length c0_5]) (t:=34) ?hr ?_;(case hd=>rfl);(case hg=>rfl);(case hr=>first|(go_simp;done)|(go_simp;rfl));intro gb392 hg w3 hbox hb;have n0_:=Aside0.mk (below_step (by repeat (first|(with_reducible first|exact HB.out|apply below_alloc|apply pw_below_drewN|apply below_drew1)|exact HB.out)) hb);have n1_:=Aside0.mk (hbox);have n2_:=Aside0.mk ((by rw [hg];exact (below_size (by repeat (first|(with_reducible first|exact HB.out|apply below_alloc|apply pw_below_drewN|apply below_drew1)|exact HB.out))):w.heap.size ≤ gb392));have n3_:=Aside0.mk ((by rw [hg];exact (below_size (by repeat (first|(with_reducible first|exact HB.out|apply below_alloc|apply pw_below_drewN|apply below_drew1)|exact HB.out))):w.heap.size ≤ gb392));clear HB;have HB:=n0_;have BK392:=n1_;have GW392:=n2_;have GE392:=n3_;clear n0_ n1_ n2_ n3_;clear hb hbox hg))
 (try simp only [Act.put,setIfInBounds_toArray,set_cons_zero,set_cons_succ])
 go_cut [24] (fun v24 wc=>∃ (kq:Nat) (x24_1:Bool),v24 = .bool x24_1∧Aside0 (spec_BatchValid.j0 kq x24_1 a0_0 a0_1 a0_2 a0_3 a0_4 l0_5=some r)∧Aside0 (kq ≤ k)∧Aside0 (wc.heap[gb392]? = some (.cells #[.bool a0_0,.bool a0_1,.int .i64 a0_2,.int .i64 a0_3,.int .i64 a0_4,(.slice A0_5 l0_5.length c0_5)] 34 (0,0)))∧Aside0 (Below w.heap.size w wc))
 case first=>
  have H:=HC2.out
  clear HC2
  replace H:=Option.bind_eq_some_iff.mp H
  obtain ⟨t393,A40,H⟩:=H
  replace H:(if t393=true then ((spec_l6In.f a0_2 0 255).bind fun t394=>(if t394=true then ((spec_l6In.f a0_3 0 99).bind fun t395=>(if t395=true then ((spec_l6In.f a0_4 0 9999).bind fun t396=>(spec_BatchValid.j0 k (!t396) a0_0 a0_1 a0_2 a0_3 a0_4 l0_5)) else (spec_BatchValid.j0 k true a0_0 a0_1 a0_2 a0_3 a0_4 l0_5))) else (spec_BatchValid.j0 k true a0_0 a0_1 a0_2 a0_3 a0_4 l0_5))) else (spec_BatchValid.j0 k true a0_0 a0_1 a0_2 a0_3 a0_4 l0_5))=some r:=H
  have A4:=Aside0.mk A40
  clear A40
  by_cases c5:t393=true
  ·subst c5
   have H1:((spec_l6In.f a0_2 0 255).bind fun t394=>(if t394=true then ((spec_l6In.f a0_3 0 99).bind fun t395=>(if t395=true then ((spec_l6In.f a0_4 0 9999).bind fun t396=>(spec_BatchValid.j0 k (!t396) a0_0 a0_1 a0_2 a0_3 a0_4 l0_5)) else (spec_BatchValid.j0 k true a0_0 a0_1 a0_2 a0_3 a0_4 l0_5))) else (spec_BatchValid.j0 k true a0_0 a0_1 a0_2 a0_3 a0_4 l0_5)))=some r:=by rw [if_pos rfl] at H;exact H
   clear H
   have H:=H1
   clear H1
   replace H:=Option.bind_eq_some_iff.mp H
   obtain ⟨t394,A60,H⟩:=H
   replace H:(if t394=true then ((spec_l6In.f a0_3 0 99).bind fun t395=>(if t395=true then ((spec_l6In.f a0_4 0 9999).bind fun t396=>(spec_BatchValid.j0 k (!t396) a0_0 a0_1 a0_2 a0_3 a0_4 l0_5)) else (spec_BatchValid.j0 k true a0_0 a0_1 a0_2 a0_3 a0_4 l0_5))) else (spec_BatchValid.j0 k true a0_0 a0_1 a0_2 a0_3 a0_4 l0_5))=some r:=H
   have A6:=Aside0.mk A60
   clear A60
   by_cases c7:t394=true
   ·subst c7
    have H1:((spec_l6In.f a0_3 0 99).bind fun t395=>(if t395=true then ((spec_l6In.f a0_4 0 9999).bind fun t396=>(spec_BatchValid.j0 k (!t396) a0_0 a0_1 a0_2 a0_3 a0_4 l0_5)) else (spec_BatchValid.j0 k true a0_0 a0_1 a0_2 a0_3 a0_4 l0_5)))=some r:=by rw [if_pos rfl] at H;exact H
    clear H
    have H:=H1
    clear H1
    replace H:=Option.bind_eq_some_iff.mp H
    obtain ⟨t395,A80,H⟩:=H
    replace H:(if t395=true then ((spec_l6In.f a0_4 0 9999).bind fun t396=>(spec_BatchValid.j0 k (!t396) a0_0 a0_1 a0_2 a0_3 a0_4 l0_5)) else (spec_BatchValid.j0 k true a0_0 a0_1 a0_2 a0_3 a0_4 l0_5))=some r:=H
    have A8:=Aside0.mk A80
    clear A80
    by_cases c9:t395=true
    ·subst c9
     have H1:((spec_l6In.f a0_4 0 9999).bind fun t396=>(spec_BatchValid.j0 k (!t396) a0_0 a0_1 a0_2 a0_3 a0_4 l0_5))=some r:=by rw [if_pos rfl] at H;exact H
     clear H
     have H:=H1
     clear H1
     replace H:=Option.bind_eq_some_iff.mp H
     obtain ⟨t396,A100,H⟩:=H
     replace H:(spec_BatchValid.j0 k (!t396) a0_0 a0_1 a0_2 a0_3 a0_4 l0_5)=some r:=H
     have A10:=Aside0.mk A100
     clear A100
     have H':=Aside0.mk H
     clear H
     have hcz11_0:w3.cell? ⟨gb392,0,none⟩=some (.bool a0_0):=(blk_cell BK392.out 0).trans rfl
     have hcz11_1:w3.cell? ⟨gb392,1,none⟩=some (.bool a0_1):=(blk_cell BK392.out 1).trans rfl
     have hcz11_2:w3.cell? ⟨gb392,2,none⟩=some (.int .i64 a0_2):=(blk_cell BK392.out 2).trans rfl
     have hcz11_3:w3.cell? ⟨gb392,3,none⟩=some (.int .i64 a0_3):=(blk_cell BK392.out 3).trans rfl
     have hcz11_4:w3.cell? ⟨gb392,4,none⟩=some (.int .i64 a0_4):=(blk_cell BK392.out 4).trans rfl
     have hcz11_5:w3.cell? ⟨gb392,5,none⟩=some (.slice A0_5 l0_5.length c0_5):=(blk_cell BK392.out 5).trans rfl
     have hfz11_0:=blk_frozen BK392.out 0
     have hfz11_1:=blk_frozen BK392.out 1
     have hfz11_2:=blk_frozen BK392.out 2
     have hfz11_3:=blk_frozen BK392.out 3
     have hfz11_4:=blk_frozen BK392.out 4
     have hfz11_5:=blk_frozen BK392.out 5
     go_wp2_with (first|((with_reducible refine gate_callee (f:=70) rfl ?_);refine goesL_ (some 5) rfl rfl Try.func70 (by kernel_rfl) rfl #[.slice A0_5 l0_5.length c0_5] rfl (by (try simp only [map_toArray,map_cons,map_nil]);first|done|rfl|(simp only [length_drop,length_take];rfl)) ?_;(with_reducible refine (spec_l5Records.calls k _ _ l0_5 true _ ?side1 ?side2 A4.out).mono ?_);(case side1=>repeat (first|exact (Kd.C_below HR0_5.out HB.out)|(with_reducible refine Kd.C_alloc ?_ _)|(with_reducible refine Kd.C_drewN ?_ _)|(with_reducible refine Kd.C_drew ?_)));(case side2=>exact HC0_5.out);rintro e w12 ⟨rfl,hb⟩;refine ⟨_,rfl,?_⟩;have n0_:=Aside0.mk (blk_below (g:=gb392) (o:=.cells #[.bool a0_0,.bool a0_1,.int .i64 a0_2,.int .i64 a0_3,.int .i64 a0_4,.slice A0_5 l0_5.length c0_5] 34 (0,0)) (by (with_reducible repeat (first|refine blk_drewN ?_ _|refine blk_drew ?_|refine blk_alloc ?_ _));exact BK392.out) hb);have n1_:=Aside0.mk (below_step (by repeat (first|(with_reducible first|exact HB.out|apply below_alloc|apply pw_below_drewN|apply below_drew1|refine below_set ?_ GE392.out)|exact HB.out)) hb);clear BK392 HB;have BK392:=n0_;have HB:=n1_;clear n0_ n1_;(try clear hb);(try clear hb2);(try clear hk);(try clear hi);have hcz13_0:w12.cell? ⟨gb392,0,none⟩=some (.bool a0_0):=(blk_cell BK392.out 0).trans rfl;have hcz13_1:w12.cell? ⟨gb392,1,none⟩=some (.bool a0_1):=(blk_cell BK392.out 1).trans rfl;have hcz13_2:w12.cell? ⟨gb392,2,none⟩=some (.int .i64 a0_2):=(blk_cell BK392.out 2).trans rfl;have hcz13_3:w12.cell? ⟨gb392,3,none⟩=some (.int .i64 a0_3):=(blk_cell BK392.out 3).trans rfl;have hcz13_4:w12.cell? ⟨gb392,4,none⟩=some (.int .i64 a0_4):=(blk_cell BK392.out 4).trans rfl;have hcz13_5:w12.cell? ⟨gb392,5,none⟩=some (.slice A0_5 l0_5.length c0_5):=(blk_cell BK392.out 5).trans rfl;have hfz13_0:=blk_frozen BK392.out 0;have hfz13_1:=blk_frozen BK392.out 1;have hfz13_2:=blk_frozen BK392.out 2;have hfz13_3:=blk_frozen BK392.out 3;have hfz13_4:=blk_frozen BK392.out 4;have hfz13_5:=blk_frozen BK392.out 5)|(go_at_call 53;(with_reducible refine (spec_l6In.calls a0_2 0 255 true _ A6.out).mono ?_);rintro e w' ⟨rfl,⟨nd,rfl⟩⟩)|(go_at_call 53;(with_reducible refine (spec_l6In.calls a0_3 0 99 true _ A8.out).mono ?_);rintro e w' ⟨rfl,⟨nd,rfl⟩⟩)|(go_at_call 53;(with_reducible refine (spec_l6In.calls a0_4 0 9999 t396 _ A10.out).mono ?_);rintro e w' ⟨rfl,⟨nd,rfl⟩⟩))
     go_meet
     case rel=>exact ⟨_,(!t396),(by first|rfl|(simp;done)|(simp [*];done)),H',⟨by first|omega|exact Nat.le_refl _⟩,⟨by (with_reducible repeat (first|refine blk_drewN ?_ _|refine blk_drew ?_|refine blk_alloc ?_ _));exact BK392.out⟩,⟨by repeat (first|(with_reducible first|exact HB.out|apply below_alloc|apply pw_below_drewN|apply below_drew1|refine below_set ?_ GE392.out)|exact HB.out)⟩⟩
    ·replace c9:=Bool.eq_false_iff.mpr c9
     subst c9
     have H1:(spec_BatchValid.j0 k true a0_0 a0_1 a0_2 a0_3 a0_4 l0_5)=some r:=by rw [if_neg (show ¬ (false=true) by decide)] at H;exact H
     clear H
     have H:=H1
     clear H1
     have H':=Aside0.mk H
     clear H
     have hcz14_0:w3.cell? ⟨gb392,0,none⟩=some (.bool a0_0):=(blk_cell BK392.out 0).trans rfl
     have hcz14_1:w3.cell? ⟨gb392,1,none⟩=some (.bool a0_1):=(blk_cell BK392.out 1).trans rfl
     have hcz14_2:w3.cell? ⟨gb392,2,none⟩=some (.int .i64 a0_2):=(blk_cell BK392.out 2).trans rfl
     have hcz14_3:w3.cell? ⟨gb392,3,none⟩=some (.int .i64 a0_3):=(blk_cell BK392.out 3).trans rfl
     have hcz14_4:w3.cell? ⟨gb392,4,none⟩=some (.int .i64 a0_4):=(blk_cell BK392.out 4).trans rfl
     have hcz14_5:w3.cell? ⟨gb392,5,none⟩=some (.slice A0_5 l0_5.length c0_5):=(blk_cell BK392.out 5).trans rfl
     have hfz14_0:=blk_frozen BK392.out 0
     have hfz14_1:=blk_frozen BK392.out 1
     have hfz14_2:=blk_frozen BK392.out 2
     have hfz14_3:=blk_frozen BK392.out 3
     have hfz14_4:=blk_frozen BK392.out 4
     have hfz14_5:=blk_frozen BK392.out 5
     go_wp2_with (first|((with_reducible refine gate_callee (f:=70) rfl ?_);refine goesL_ (some 5) rfl rfl Try.func70 (by kernel_rfl) rfl #[.slice A0_5 l0_5.length c0_5] rfl (by (try simp only [map_toArray,map_cons,map_nil]);first|done|rfl|(simp only [length_drop,length_take];rfl)) ?_;(with_reducible refine (spec_l5Records.calls k _ _ l0_5 true _ ?side1 ?side2 A4.out).mono ?_);(case side1=>repeat (first|exact (Kd.C_below HR0_5.out HB.out)|(with_reducible refine Kd.C_alloc ?_ _)|(with_reducible refine Kd.C_drewN ?_ _)|(with_reducible refine Kd.C_drew ?_)));(case side2=>exact HC0_5.out);rintro e w15 ⟨rfl,hb⟩;refine ⟨_,rfl,?_⟩;have n0_:=Aside0.mk (blk_below (g:=gb392) (o:=.cells #[.bool a0_0,.bool a0_1,.int .i64 a0_2,.int .i64 a0_3,.int .i64 a0_4,.slice A0_5 l0_5.length c0_5] 34 (0,0)) (by (with_reducible repeat (first|refine blk_drewN ?_ _|refine blk_drew ?_|refine blk_alloc ?_ _));exact BK392.out) hb);have n1_:=Aside0.mk (below_step (by repeat (first|(with_reducible first|exact HB.out|apply below_alloc|apply pw_below_drewN|apply below_drew1|refine below_set ?_ GE392.out)|exact HB.out)) hb);clear BK392 HB;have BK392:=n0_;have HB:=n1_;clear n0_ n1_;(try clear hb);(try clear hb2);(try clear hk);(try clear hi);have hcz16_0:w15.cell? ⟨gb392,0,none⟩=some (.bool a0_0):=(blk_cell BK392.out 0).trans rfl;have hcz16_1:w15.cell? ⟨gb392,1,none⟩=some (.bool a0_1):=(blk_cell BK392.out 1).trans rfl;have hcz16_2:w15.cell? ⟨gb392,2,none⟩=some (.int .i64 a0_2):=(blk_cell BK392.out 2).trans rfl;have hcz16_3:w15.cell? ⟨gb392,3,none⟩=some (.int .i64 a0_3):=(blk_cell BK392.out 3).trans rfl;have hcz16_4:w15.cell? ⟨gb392,4,none⟩=some (.int .i64 a0_4):=(blk_cell BK392.out 4).trans rfl;have hcz16_5:w15.cell? ⟨gb392,5,none⟩=some (.slice A0_5 l0_5.length c0_5):=(blk_cell BK392.out 5).trans rfl;have hfz16_0:=blk_frozen BK392.out 0;have hfz16_1:=blk_frozen BK392.out 1;have hfz16_2:=blk_frozen BK392.out 2;have hfz16_3:=blk_frozen BK392.out 3;have hfz16_4:=blk_frozen BK392.out 4;have hfz16_5:=blk_frozen BK392.out 5)|(go_at_call 53;(with_reducible refine (spec_l6In.calls a0_2 0 255 true _ A6.out).mono ?_);rintro e w' ⟨rfl,⟨nd,rfl⟩⟩)|(go_at_call 53;(with_reducible refine (spec_l6In.calls a0_3 0 99 false _ A8.out).mono ?_);rintro e w' ⟨rfl,⟨nd,rfl⟩⟩))
     go_meet
     case rel=>exact ⟨_,(true),(by first|rfl|(simp;done)|(simp [*];done)),H',⟨by first|omega|exact Nat.le_refl _⟩,⟨by (with_reducible repeat (first|refine blk_drewN ?_ _|refine blk_drew ?_|refine blk_alloc ?_ _));exact BK392.out⟩,⟨by repeat (first|(with_reducible first|exact HB.out|apply below_alloc|apply pw_below_drewN|apply below_drew1|refine below_set ?_ GE392.out)|exact HB.out)⟩⟩
   ·replace c7:=Bool.eq_false_iff.mpr c7
    subst c7
    have H1:(spec_BatchValid.j0 k true a0_0 a0_1 a0_2 a0_3 a0_4 l0_5)=some r:=by rw [if_neg (show ¬ (false=true) by decide)] at H;exact H
    clear H
    have H:=H1
    clear H1
    have H':=Aside0.mk H
    clear H
    have hcz17_0:w3.cell? ⟨gb392,0,none⟩=some (.bool a0_0):=(blk_cell BK392.out 0).trans rfl
    have hcz17_1:w3.cell? ⟨gb392,1,none⟩=some (.bool a0_1):=(blk_cell BK392.out 1).trans rfl
    have hcz17_2:w3.cell? ⟨gb392,2,none⟩=some (.int .i64 a0_2):=(blk_cell BK392.out 2).trans rfl
    have hcz17_3:w3.cell? ⟨gb392,3,none⟩=some (.int .i64 a0_3):=(blk_cell BK392.out 3).trans rfl
    have hcz17_4:w3.cell? ⟨gb392,4,none⟩=some (.int .i64 a0_4):=(blk_cell BK392.out 4).trans rfl
    have hcz17_5:w3.cell? ⟨gb392,5,none⟩=some (.slice A0_5 l0_5.length c0_5):=(blk_cell BK392.out 5).trans rfl
    have hfz17_0:=blk_frozen BK392.out 0
    have hfz17_1:=blk_frozen BK392.out 1
    have hfz17_2:=blk_frozen BK392.out 2
    have hfz17_3:=blk_frozen BK392.out 3
    have hfz17_4:=blk_frozen BK392.out 4
    have hfz17_5:=blk_frozen BK392.out 5
    go_wp2_with (first|((with_reducible refine gate_callee (f:=70) rfl ?_);refine goesL_ (some 5) rfl rfl Try.func70 (by kernel_rfl) rfl #[.slice A0_5 l0_5.length c0_5] rfl (by (try simp only [map_toArray,map_cons,map_nil]);first|done|rfl|(simp only [length_drop,length_take];rfl)) ?_;(with_reducible refine (spec_l5Records.calls k _ _ l0_5 true _ ?side1 ?side2 A4.out).mono ?_);(case side1=>repeat (first|exact (Kd.C_below HR0_5.out HB.out)|(with_reducible refine Kd.C_alloc ?_ _)|(with_reducible refine Kd.C_drewN ?_ _)|(with_reducible refine Kd.C_drew ?_)));(case side2=>exact HC0_5.out);rintro e w18 ⟨rfl,hb⟩;refine ⟨_,rfl,?_⟩;have n0_:=Aside0.mk (blk_below (g:=gb392) (o:=.cells #[.bool a0_0,.bool a0_1,.int .i64 a0_2,.int .i64 a0_3,.int .i64 a0_4,.slice A0_5 l0_5.length c0_5] 34 (0,0)) (by (with_reducible repeat (first|refine blk_drewN ?_ _|refine blk_drew ?_|refine blk_alloc ?_ _));exact BK392.out) hb);have n1_:=Aside0.mk (below_step (by repeat (first|(with_reducible first|exact HB.out|apply below_alloc|apply pw_below_drewN|apply below_drew1|refine below_set ?_ GE392.out)|exact HB.out)) hb);clear BK392 HB;have BK392:=n0_;have HB:=n1_;clear n0_ n1_;(try clear hb);(try clear hb2);(try clear hk);(try clear hi);have hcz19_0:w18.cell? ⟨gb392,0,none⟩=some (.bool a0_0):=(blk_cell BK392.out 0).trans rfl;have hcz19_1:w18.cell? ⟨gb392,1,none⟩=some (.bool a0_1):=(blk_cell BK392.out 1).trans rfl;have hcz19_2:w18.cell? ⟨gb392,2,none⟩=some (.int .i64 a0_2):=(blk_cell BK392.out 2).trans rfl;have hcz19_3:w18.cell? ⟨gb392,3,none⟩=some (.int .i64 a0_3):=(blk_cell BK392.out 3).trans rfl;have hcz19_4:w18.cell? ⟨gb392,4,none⟩=some (.int .i64 a0_4):=(blk_cell BK392.out 4).trans rfl;have hcz19_5:w18.cell? ⟨gb392,5,none⟩=some (.slice A0_5 l0_5.length c0_5):=(blk_cell BK392.out 5).trans rfl;have hfz19_0:=blk_frozen BK392.out 0;have hfz19_1:=blk_frozen BK392.out 1;have hfz19_2:=blk_frozen BK392.out 2;have hfz19_3:=blk_frozen BK392.out 3;have hfz19_4:=blk_frozen BK392.out 4;have hfz19_5:=blk_frozen BK392.out 5)|(go_at_call 53;(with_reducible refine (spec_l6In.calls a0_2 0 255 false _ A6.out).mono ?_);rintro e w' ⟨rfl,⟨nd,rfl⟩⟩))
    go_meet
    case rel=>exact ⟨_,(true),(by first|rfl|(simp;done)|(simp [*];done)),H',⟨by first|omega|exact Nat.le_refl _⟩,⟨by (with_reducible repeat (first|refine blk_drewN ?_ _|refine blk_drew ?_|refine blk_alloc ?_ _));exact BK392.out⟩,⟨by repeat (first|(with_reducible first|exact HB.out|apply below_alloc|apply pw_below_drewN|apply below_drew1|refine below_set ?_ GE392.out)|exact HB.out)⟩⟩
  ·replace c5:=Bool.eq_false_iff.mpr c5
   subst c5
   have H1:(spec_BatchValid.j0 k true a0_0 a0_1 a0_2 a0_3 a0_4 l0_5)=some r:=by rw [if_neg (show ¬ (false=true) by decide)] at H;exact H
   clear H
   have H:=H1
   clear H1
   have H':=Aside0.mk H
   clear H
   have hcz20_0:w3.cell? ⟨gb392,0,none⟩=some (.bool a0_0):=(blk_cell BK392.out 0).trans rfl
   have hcz20_1:w3.cell? ⟨gb392,1,none⟩=some (.bool a0_1):=(blk_cell BK392.out 1).trans rfl
   have hcz20_2:w3.cell? ⟨gb392,2,none⟩=some (.int .i64 a0_2):=(blk_cell BK392.out 2).trans rfl
   have hcz20_3:w3.cell? ⟨gb392,3,none⟩=some (.int .i64 a0_3):=(blk_cell BK392.out 3).trans rfl
   have hcz20_4:w3.cell? ⟨gb392,4,none⟩=some (.int .i64 a0_4):=(blk_cell BK392.out 4).trans rfl
   have hcz20_5:w3.cell? ⟨gb392,5,none⟩=some (.slice A0_5 l0_5.length c0_5):=(blk_cell BK392.out 5).trans rfl
   have hfz20_0:=blk_frozen BK392.out 0
   have hfz20_1:=blk_frozen BK392.out 1
   have hfz20_2:=blk_frozen BK392.out 2
   have hfz20_3:=blk_frozen BK392.out 3
   have hfz20_4:=blk_frozen BK392.out 4
   have hfz20_5:=blk_frozen BK392.out 5
   go_wp2_with (first|((with_reducible refine gate_callee (f:=70) rfl ?_);refine goesL_ (some 5) rfl rfl Try.func70 (by kernel_rfl) rfl #[.slice A0_5 l0_5.length c0_5] rfl (by (try simp only [map_toArray,map_cons,map_nil]);first|done|rfl|(simp only [length_drop,length_take];rfl)) ?_;(with_reducible refine (spec_l5Records.calls k _ _ l0_5 false _ ?side1 ?side2 A4.out).mono ?_);(case side1=>repeat (first|exact (Kd.C_below HR0_5.out HB.out)|(with_reducible refine Kd.C_alloc ?_ _)|(with_reducible refine Kd.C_drewN ?_ _)|(with_reducible refine Kd.C_drew ?_)));(case side2=>exact HC0_5.out);rintro e w21 ⟨rfl,hb⟩;refine ⟨_,rfl,?_⟩;have n0_:=Aside0.mk (blk_below (g:=gb392) (o:=.cells #[.bool a0_0,.bool a0_1,.int .i64 a0_2,.int .i64 a0_3,.int .i64 a0_4,.slice A0_5 l0_5.length c0_5] 34 (0,0)) (by (with_reducible repeat (first|refine blk_drewN ?_ _|refine blk_drew ?_|refine blk_alloc ?_ _));exact BK392.out) hb);have n1_:=Aside0.mk (below_step (by repeat (first|(with_reducible first|exact HB.out|apply below_alloc|apply pw_below_drewN|apply below_drew1|refine below_set ?_ GE392.out)|exact HB.out)) hb);clear BK392 HB;have BK392:=n0_;have HB:=n1_;clear n0_ n1_;(try clear hb);(try clear hb2);(try clear hk);(try clear hi)))
   go_meet
   case rel=>exact ⟨_,(true),(by first|rfl|(simp;done)|(simp [*];done)),H',⟨by first|omega|exact Nat.le_refl _⟩,⟨by (with_reducible repeat (first|refine blk_drewN ?_ _|refine blk_drew ?_|refine blk_alloc ?_ _));exact BK392.out⟩,⟨by repeat (first|(with_reducible first|exact HB.out|apply below_alloc|apply pw_below_drewN|apply below_drew1|refine below_set ?_ GE392.out)|exact HB.out)⟩⟩
 case rest=>
  clear HC2
  try clear p2
  try clear c5
  try clear c7
  try clear c9
  try clear hcz11_0
  try clear hcz11_1
  try clear hcz11_2
  try clear hcz11_3
  try clear hcz11_4
  try clear hcz11_5
  try clear hcz13_0
  try clear hcz13_1
  try clear hcz13_2
  try clear hcz13_3
  try clear hcz13_4
  try clear hcz13_5
  try clear hcz14_0
  try clear hcz14_1
  try clear hcz14_2
  try clear hcz14_3
  try clear hcz14_4
  try clear hcz14_5
  try clear hcz16_0
  try clear hcz16_1
  try clear hcz16_2
  try clear hcz16_3
  try clear hcz16_4
  try clear hcz16_5
  try clear hcz17_0
  try clear hcz17_1
  try clear hcz17_2
  try clear hcz17_3
  try clear hcz17_4
  try clear hcz17_5
  try clear hcz19_0
  try clear hcz19_1
  try clear hcz19_2
  try clear hcz19_3
  try clear hcz19_4
  try clear hcz19_5
  try clear hcz20_0
  try clear hcz20_1
  try clear hcz20_2
  try clear hcz20_3
  try clear hcz20_4
  try clear hcz20_5
  try clear hfz11_0
  try clear hfz11_1
  try clear hfz11_2
  try clear hfz11_3
  try clear hfz11_4
  try clear hfz11_5
  try clear hfz13_0
  try clear hfz13_1
  try clear hfz13_2
  try clear hfz13_3
  try clear hfz13_4
  try clear hfz13_5
  try clear hfz14_0
  try clear hfz14_1
  try clear hfz14_2
  try clear hfz14_3
  try clear hfz14_4
  try clear hfz14_5
  try clear hfz16_0
  try clear hfz16_1
  try clear hfz16_2
  try clear hfz16_3
  try clear hfz16_4
  try clear hfz16_5
  try clear hfz17_0
  try clear hfz17_1
  try clear hfz17_2
  try clear hfz17_3
  try clear hfz17_4
  try clear hfz17_5
  try clear hfz19_0
  try clear hfz19_1
  try clear hfz19_2
  try clear hfz19_3
  try clear hfz19_4
  try clear hfz19_5
  try clear hfz20_0
  try clear hfz20_1
  try clear hfz20_2
  try clear hfz20_3
  try clear hfz20_4
  try clear hfz20_5
  obtain ⟨kq,x24_1,rfl,HA,HJ1,BK392,HB⟩:=hcut
  cases kq with
  | zero=>exact absurd HA.out (by simp [spec_BatchValid.j0])
  | succ kj1=>
   have H:=HA.out
   clear HA
   simp only [spec_BatchValid.j0] at H
   by_cases c22:x24_1=true
   ·subst c22
    have H1:(some false)=some r:=by rw [if_pos rfl] at H;exact H
    clear H
    have H:=H1
    clear H1
    obtain rfl:=Option.some.inj H
    go_wp2
    go_ret
    exact ⟨by first|rfl|(simp [errW_none,errW_some] <;> rfl)|(simp [*,errW_none,errW_some] <;> rfl),by repeat (first|(with_reducible first|exact HB.out|apply below_alloc|apply pw_below_drewN|apply below_drew1|refine below_set ?_ GE392.out)|exact HB.out)⟩
   ·replace c22:=Bool.eq_false_iff.mpr c22
    subst c22
    have H1:(if a0_2=255 then (if a0_3=0 then (if a0_4=0 then (some (!a0_1)) else (some false)) else (some false)) else (if a0_1=true then (some ((l0_5.length:Int) == 1)) else (some true)))=some r:=by rw [if_neg (show ¬ (false=true) by decide)] at H;exact H
    clear H
    have H:=H1
    clear H1
    by_cases c23:a0_2=255
    ·rw [if_pos c23] at H
     have c23b0:(a0_2 == 255)=true:=beq_iff_eq.mpr c23
     have c23b1:(a0_2 != 255)=false:=bne_eq_false_iff_eq.mpr c23
     clear c23
     by_cases c24:a0_3=0
     ·rw [if_pos c24] at H
      have c24b0:(a0_3 == 0)=true:=beq_iff_eq.mpr c24
      have c24b1:(a0_3 != 0)=false:=bne_eq_false_iff_eq.mpr c24
      clear c24
      by_cases c25:a0_4=0
      ·rw [if_pos c25] at H
       have c25b0:(a0_4 == 0)=true:=beq_iff_eq.mpr c25
       have c25b1:(a0_4 != 0)=false:=bne_eq_false_iff_eq.mpr c25
       clear c25
       obtain rfl:=Option.some.inj H
       have hcz26_0:wc.cell? ⟨gb392,0,none⟩=some (.bool a0_0):=(blk_cell BK392.out 0).trans rfl
       have hcz26_1:wc.cell? ⟨gb392,1,none⟩=some (.bool a0_1):=(blk_cell BK392.out 1).trans rfl
       have hcz26_2:wc.cell? ⟨gb392,2,none⟩=some (.int .i64 a0_2):=(blk_cell BK392.out 2).trans rfl
       have hcz26_3:wc.cell? ⟨gb392,3,none⟩=some (.int .i64 a0_3):=(blk_cell BK392.out 3).trans rfl
       have hcz26_4:wc.cell? ⟨gb392,4,none⟩=some (.int .i64 a0_4):=(blk_cell BK392.out 4).trans rfl
       have hcz26_5:wc.cell? ⟨gb392,5,none⟩=some (.slice A0_5 l0_5.length c0_5):=(blk_cell BK392.out 5).trans rfl
       have hfz26_0:=blk_frozen BK392.out 0
       have hfz26_1:=blk_frozen BK392.out 1
       have hfz26_2:=blk_frozen BK392.out 2
       have hfz26_3:=blk_frozen BK392.out 3
       have hfz26_4:=blk_frozen BK392.out 4
       have hfz26_5:=blk_frozen BK392.out 5
       go_wp2
       go_ret
       exact ⟨by first|rfl|(simp [errW_none,errW_some] <;> rfl)|(simp [*,errW_none,errW_some] <;> rfl),by repeat (first|(with_reducible first|exact HB.out|apply below_alloc|apply pw_below_drewN|apply below_drew1|refine below_set ?_ GE392.out)|exact HB.out)⟩
      ·rw [if_neg c25] at H
       have c25b0:(a0_4 == 0)=false:=beq_eq_false_iff_ne.mpr c25
       have c25b1:(a0_4 != 0)=true:=bne_iff_ne.mpr c25
       obtain rfl:=Option.some.inj H
       have hcz27_0:wc.cell? ⟨gb392,0,none⟩=some (.bool a0_0):=(blk_cell BK392.out 0).trans rfl
       have hcz27_1:wc.cell? ⟨gb392,1,none⟩=some (.bool a0_1):=(blk_cell BK392.out 1).trans rfl
       have hcz27_2:wc.cell? ⟨gb392,2,none⟩=some (.int .i64 a0_2):=(blk_cell BK392.out 2).trans rfl
       have hcz27_3:wc.cell? ⟨gb392,3,none⟩=some (.int .i64 a0_3):=(blk_cell BK392.out 3).trans rfl
       have hcz27_4:wc.cell? ⟨gb392,4,none⟩=some (.int .i64 a0_4):=(blk_cell BK392.out 4).trans rfl
       have hcz27_5:wc.cell? ⟨gb392,5,none⟩=some (.slice A0_5 l0_5.length c0_5):=(blk_cell BK392.out 5).trans rfl
       have hfz27_0:=blk_frozen BK392.out 0
       have hfz27_1:=blk_frozen BK392.out 1
       have hfz27_2:=blk_frozen BK392.out 2
       have hfz27_3:=blk_frozen BK392.out 3
       have hfz27_4:=blk_frozen BK392.out 4
       have hfz27_5:=blk_frozen BK392.out 5
       go_wp2
       go_ret
       exact ⟨by first|rfl|(simp [errW_none,errW_some] <;> rfl)|(simp [*,errW_none,errW_some] <;> rfl),by repeat (first|(with_reducible first|exact HB.out|apply below_alloc|apply pw_below_drewN|apply below_drew1|refine below_set ?_ GE392.out)|exact HB.out)⟩
     ·rw [if_neg c24] at H
      have c24b0:(a0_3 == 0)=false:=beq_eq_false_iff_ne.mpr c24
      have c24b1:(a0_3 != 0)=true:=bne_iff_ne.mpr c24
      obtain rfl:=Option.some.inj H
      have hcz28_0:wc.cell? ⟨gb392,0,none⟩=some (.bool a0_0):=(blk_cell BK392.out 0).trans rfl
      have hcz28_1:wc.cell? ⟨gb392,1,none⟩=some (.bool a0_1):=(blk_cell BK392.out 1).trans rfl
      have hcz28_2:wc.cell? ⟨gb392,2,none⟩=some (.int .i64 a0_2):=(blk_cell BK392.out 2).trans rfl
      have hcz28_3:wc.cell? ⟨gb392,3,none⟩=some (.int .i64 a0_3):=(blk_cell BK392.out 3).trans rfl
      have hcz28_4:wc.cell? ⟨gb392,4,none⟩=some (.int .i64 a0_4):=(blk_cell BK392.out 4).trans rfl
      have hcz28_5:wc.cell? ⟨gb392,5,none⟩=some (.slice A0_5 l0_5.length c0_5):=(blk_cell BK392.out 5).trans rfl
      have hfz28_0:=blk_frozen BK392.out 0
      have hfz28_1:=blk_frozen BK392.out 1
      have hfz28_2:=blk_frozen BK392.out 2
      have hfz28_3:=blk_frozen BK392.out 3
      have hfz28_4:=blk_frozen BK392.out 4
      have hfz28_5:=blk_frozen BK392.out 5
      go_wp2
      go_ret
      exact ⟨by first|rfl|(simp [errW_none,errW_some] <;> rfl)|(simp [*,errW_none,errW_some] <;> rfl),by repeat (first|(with_reducible first|exact HB.out|apply below_alloc|apply pw_below_drewN|apply below_drew1|refine below_set ?_ GE392.out)|exact HB.out)⟩
    ·rw [if_neg c23] at H
     have c23b0:(a0_2 == 255)=false:=beq_eq_false_iff_ne.mpr c23
     have c23b1:(a0_2 != 255)=true:=bne_iff_ne.mpr c23
     by_cases c29:a0_1=true
     ·subst c29
      have H1:(some ((l0_5.length:Int) == 1))=some r:=by rw [if_pos rfl] at H;exact H
      clear H
      have H:=H1
      clear H1
      obtain rfl:=Option.some.inj H
      have hcz30_0:wc.cell? ⟨gb392,0,none⟩=some (.bool a0_0):=(blk_cell BK392.out 0).trans rfl
      have hcz30_1:wc.cell? ⟨gb392,1,none⟩=some (.bool true):=(blk_cell BK392.out 1).trans rfl
      have hcz30_2:wc.cell? ⟨gb392,2,none⟩=some (.int .i64 a0_2):=(blk_cell BK392.out 2).trans rfl
      have hcz30_3:wc.cell? ⟨gb392,3,none⟩=some (.int .i64 a0_3):=(blk_cell BK392.out 3).trans rfl
      have hcz30_4:wc.cell? ⟨gb392,4,none⟩=some (.int .i64 a0_4):=(blk_cell BK392.out 4).trans rfl
      have hcz30_5:wc.cell? ⟨gb392,5,none⟩=some (.slice A0_5 l0_5.length c0_5):=(blk_cell BK392.out 5).trans rfl
      have hfz30_0:=blk_frozen BK392.out 0
      have hfz30_1:=blk_frozen BK392.out 1
      have hfz30_2:=blk_frozen BK392.out 2
      have hfz30_3:=blk_frozen BK392.out 3
      have hfz30_4:=blk_frozen BK392.out 4
      have hfz30_5:=blk_frozen BK392.out 5
      go_wp2
      go_ret
      exact ⟨by first|rfl|(simp [errW_none,errW_some] <;> rfl)|(simp [*,errW_none,errW_some] <;> rfl),by repeat (first|(with_reducible first|exact HB.out|apply below_alloc|apply pw_below_drewN|apply below_drew1|refine below_set ?_ GE392.out)|exact HB.out)⟩
     ·replace c29:=Bool.eq_false_iff.mpr c29
      subst c29
      have H1:(some true)=some r:=by rw [if_neg (show ¬ (false=true) by decide)] at H;exact H
      clear H
      have H:=H1
      clear H1
      obtain rfl:=Option.some.inj H
      have hcz31_0:wc.cell? ⟨gb392,0,none⟩=some (.bool a0_0):=(blk_cell BK392.out 0).trans rfl
      have hcz31_1:wc.cell? ⟨gb392,1,none⟩=some (.bool false):=(blk_cell BK392.out 1).trans rfl
      have hcz31_2:wc.cell? ⟨gb392,2,none⟩=some (.int .i64 a0_2):=(blk_cell BK392.out 2).trans rfl
      have hcz31_3:wc.cell? ⟨gb392,3,none⟩=some (.int .i64 a0_3):=(blk_cell BK392.out 3).trans rfl
      have hcz31_4:wc.cell? ⟨gb392,4,none⟩=some (.int .i64 a0_4):=(blk_cell BK392.out 4).trans rfl
      have hcz31_5:wc.cell? ⟨gb392,5,none⟩=some (.slice A0_5 l0_5.length c0_5):=(blk_cell BK392.out 5).trans rfl
      have hfz31_0:=blk_frozen BK392.out 0
      have hfz31_1:=blk_frozen BK392.out 1
      have hfz31_2:=blk_frozen BK392.out 2
      have hfz31_3:=blk_frozen BK392.out 3
      have hfz31_4:=blk_frozen BK392.out 4
      have hfz31_5:=blk_frozen BK392.out 5
      go_wp2
      go_ret
      exact ⟨by first|rfl|(simp [errW_none,errW_some] <;> rfl)|(simp [*,errW_none,errW_some] <;> rfl),by repeat (first|(with_reducible first|exact HB.out|apply below_alloc|apply pw_below_drewN|apply below_drew1|refine below_set ?_ GE392.out)|exact HB.out)⟩
end Go.Proofs.Ytkhmopmfbocokaa.T
namespace Go.Proofs.Ytkhmopmfbocokaa.T
open Go.RowKit Go.Proofs.YtkhmopmfbocokaaW.PrintWords Go.Proofs.YtkhmopmfbocokaaW.PrintLast Go.Proofs.YtkhmopmfbocokaaW.PrintMore
attribute [local go_sem] max2_int max_two
set_option linter.unusedVariables false
set_option linter.unusedSimpArgs false
def spec_l21At.l0:Nat→List (S39)→Int→Int→Option (Int)
 | 0,_,_,_=>none
 | k+1,x0,x1,x5=>if x5 < (x0.length:Int) then (if 0 ≤ x5 then (if ((rd_T39 x0 x5).f0)=x1 then (some x5) else (spec_l21At.l0 k x0 x1 (wrap64 (x5+1)))) else (none)) else (some (-1))
def spec_l21At.f (k:Nat) (l0:List (S39)) (a1:Int):Option (Int):=spec_l21At.l0 k l0 a1 0
set_option maxHeartbeats 8000000 in
set_option maxRecDepth 100000 in
theorem spec_l21At.calls (k:Nat) (A0:Option Addr) (c0:Nat) (l0:List (S39)) (a1:Int) (r:Int) (w:World) (hr0:Kd.C k39 w A0 l0.length l0) (hc0:l0.length ≤ c0) (h:spec_l21At.f k l0 a1=some r) :
  Calls Try.prog 71 #[.slice A0 l0.length c0,.int .i64 a1] w fun e w'=>e = .returned (.int .i64 r)∧Drawn0 w w':=by
 have HR0:=Aside0.mk hr0
 have HC0:=Aside0.mk hc0
 clear hr0 hc0
 have H:(spec_l21At.l0 k l0 a1 0)=some r:=h
 clear h
 have H':=Aside0.mk H
 clear H
 go_enter Try.func71,Try.ntmps71
 go_wp2
 go_loopg [5] k (fun kq v5 w'=>∃ (x5_1:Int),v5 = .int .i64 x5_1∧Aside0 (spec_l21At.l0 kq l0 a1 x5_1=some r)∧Aside0 (kq ≤ k)∧Drawn0 w w')
 case atStart=>exact ⟨(0),(by first|rfl|(simp;done)|(simp [*];done)),H',⟨Nat.le_refl _⟩,by repeat (first|exact Drawn0.refl _|apply Drawn0.step)⟩
 case round=>
  clear H'
  try clear p2
  obtain ⟨x5_1,rfl,HA,HK1,⟨m1,rfl⟩⟩:=hrel
  cases gk with
  | zero=>exact absurd HA.out (by simp [spec_l21At.l0])
  | succ k1=>
   have H:=HA.out
   clear HA
   simp only [spec_l21At.l0] at H
   by_cases c3:x5_1 < (l0.length:Int)
   ·rw [if_pos c3] at H
    have c3b0:decide (x5_1 < (l0.length:Int))=true:=decide_eq_true c3
    clear c3
    by_cases c4 : 0 ≤ x5_1
    ·rw [if_pos c4] at H
     have c4b0:decide (0 ≤ x5_1)=true:=decide_eq_true c4
     clear c4
     by_cases c5:((rd_T39 l0 x5_1).f0)=a1
     ·rw [if_pos c5] at H
      have c5b0:(((rd_T39 l0 x5_1).f0) == a1)=true:=beq_iff_eq.mpr c5
      have c5b1:(((rd_T39 l0 x5_1).f0) != a1)=false:=bne_eq_false_iff_eq.mpr c5
      clear c5
      obtain rfl:=Option.some.inj H
      have p397 : 0 ≤ (x5_1:Int):=of_decide_eq_true (by first|(with_reducible assumption)|assumption)
      have q397:x5_1 < (l0.length:Int):=of_decide_eq_true (by first|(with_reducible assumption)|assumption)
      obtain ⟨ad397,e397,hx397_0,hx397_1,hx397_2⟩:=at_T39 HR0.out x5_1 p397 q397
      cases e397
      replace p397:=eq_true p397
      replace q397:=eq_true q397
      go_wp2
      go_ret
      exact ⟨by first|rfl|(simp;done)|(simp [*];done),by repeat (first|exact Drawn0.refl _|apply Drawn0.step)⟩
     ·rw [if_neg c5] at H
      have c5b0:(((rd_T39 l0 x5_1).f0) == a1)=false:=beq_eq_false_iff_ne.mpr c5
      have c5b1:(((rd_T39 l0 x5_1).f0) != a1)=true:=bne_iff_ne.mpr c5
      have H':=Aside0.mk H
      clear H
      have p397 : 0 ≤ (x5_1:Int):=of_decide_eq_true (by first|(with_reducible assumption)|assumption)
      have q397:x5_1 < (l0.length:Int):=of_decide_eq_true (by first|(with_reducible assumption)|assumption)
      obtain ⟨ad397,e397,hx397_0,hx397_1,hx397_2⟩:=at_T39 HR0.out x5_1 p397 q397
      cases e397
      replace p397:=eq_true p397
      replace q397:=eq_true q397
      go_wp2
      go_roundg k1
      case measure=>have:=HK1.out;omega
      case rel=>exact ⟨(wrap64 (x5_1+1)),(by first|rfl|(simp;done)|(simp [*];done)),H',⟨by have:=HK1.out;omega⟩,by repeat (first|exact Drawn0.refl _|apply Drawn0.step)⟩
    ·rw [if_neg c4] at H
     exact absurd H (by simp)
   ·rw [if_neg c3] at H
    have c3b0:decide (x5_1 < (l0.length:Int))=false:=decide_eq_false c3
    clear c3
    obtain rfl:=Option.some.inj H
    go_wp2
    go_ret
    exact ⟨by first|rfl|(simp;done)|(simp [*];done),by repeat (first|exact Drawn0.refl _|apply Drawn0.step)⟩
end Go.Proofs.Ytkhmopmfbocokaa.T
