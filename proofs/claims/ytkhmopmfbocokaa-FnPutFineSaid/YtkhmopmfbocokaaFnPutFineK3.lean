/- FnPutFine, part 4 of 7: merged by wip/tools/pack2.py out of the texts that the row reaches; the pure statement is the session's own. -/
import Derived.Test.YtkhmopmfbocokaaFnPutFineK2
open List (setIfInBounds_toArray set_cons_zero set_cons_succ map_toArray map_cons map_nil length_drop length_take)
namespace Go.Proofs.Ytkhmopmfbocokaa.T
open Go.RowKit Go.Proofs.YtkhmopmfbocokaaW.PrintWords Go.Proofs.YtkhmopmfbocokaaW.PrintLast Go.Proofs.YtkhmopmfbocokaaW.PrintMore
attribute [local go_sem] max2_int max_two
set_option linter.unusedVariables false
set_option linter.unusedSimpArgs false
def spec_l92Numbered.j0:Nat→List (S39)→Bool→List Int→Int→Bool→Bool→Int→Int→Int→List (S79)→Option ((List (S39)) × Bool × Bool × Int × Int × Int × (List (S79)) × Int)
 | 0,_,_,_,_,_,_,_,_,_,_=>none
 | k+1,x4,x20,x1000,x1001,x330000,x330001,x330002,x330003,x330004,x330005=>if x20=true then ((spec_l6Rd_pick.f k x1000 x1001 (x4.length:Int)).bind fun bt332=>(if 0 ≤ bt332.1 then (if bt332.1 < (x4.length:Int) then ((spec_l6Rd_pick.f k x1000 bt332.2 6).bind fun bt336=>(if bt336.1=0 then ((spec_l6Rd_pick.f k x1000 bt336.2 5).bind fun bt338=>(some (x4,x330000,x330001,(rd_T39 x4 bt332.1).f0,(rd_T39 x4 bt332.1).f1,mx (wrap64 ((wrap64 (((rd_T39 x4 bt332.1).f2)+bt338.1)) - 2)) 0,x330005,bt338.2))) else (if bt336.1=1 then ((spec_l6Rd_pick.f k x1000 bt336.2 3).bind fun bt340=>((spec_l6Rd_pick.f k x1000 bt340.2 2).bind fun bt342=>(some (x4,x330000,x330001,(rd_T39 x4 bt332.1).f0,mx (wrap64 ((wrap64 (((rd_T39 x4 bt332.1).f1)+bt340.1)) - 1)) 0,bt342.1,x330005,bt342.2)))) else (some (x4,x330000,x330001,(rd_T39 x4 bt332.1).f0,(rd_T39 x4 bt332.1).f1,(rd_T39 x4 bt332.1).f2,x330005,bt336.2))))) else (none)) else (none))) else (some (x4,x330000,x330001,x330002,x330003,x330004,x330005,x1001))
def spec_l92Numbered.f (k:Nat) (s0_0:List Int) (s0_1:Int):Option ((List (S39)) × Bool × Bool × Int × Int × Int × (List (S79)) × Int):=(spec_l92Producers.f k s0_0 s0_1).bind fun bt314=>((spec_l6Rd_pick.f k s0_0 bt314.2 40).bind fun bt318=>((spec_l91Batch.f k s0_0 bt318.2 bt318.1).bind fun bt320=>(if (bt314.1.length:Int) > 0 then ((spec_l6Rd_pick.f k s0_0 bt320.2.2.2.2.2.2 4).bind fun bt330=>(spec_l92Numbered.j0 k bt314.1 (decide (bt330.1 > 0)) s0_0 bt330.2 bt320.1 bt320.2.1 bt320.2.2.1 bt320.2.2.2.1 bt320.2.2.2.2.1 bt320.2.2.2.2.2.1)) else (spec_l92Numbered.j0 k bt314.1 false s0_0 bt320.2.2.2.2.2.2 bt320.1 bt320.2.1 bt320.2.2.1 bt320.2.2.2.1 bt320.2.2.2.2.1 bt320.2.2.2.2.2.1))))
def spec_l92Numbered.T10:Bool × List (List Nat × List Nat):=(true,[([],[]),([0],[0]),([],[]),([2],[2]),([1,3],[1,3]),([4],[4]),([5],[5]),([0,1,2,3,4,5,6],[]),([7,6,3,0,1,2,3,4,5,6],[6,7])])
def spec_l92Numbered.B10:List Nat:=[0,1,0,4,15,31,63,127,255]
theorem spec_l92Numbered.tab10:rtab .any (opsOf Try.f56 10)=spec_l92Numbered.T10:=by kernel_rfl
theorem spec_l92Numbered.bits10:waitsOk spec_l92Numbered.T10.2 spec_l92Numbered.B10=true:=by kernel_rfl
def spec_l92Numbered.T12:Bool × List (List Nat × List Nat):=(true,[([],[]),([0],[0]),([],[]),([2],[2]),([1,3],[1,3]),([4],[4]),([5],[5]),([0,1,2,3,4,5,6],[]),([7,6,3,0,1,2,3,4,5,6],[6,7])])
def spec_l92Numbered.B12:List Nat:=[0,1,0,4,15,31,63,127,255]
theorem spec_l92Numbered.tab12:rtab .any (opsOf Try.f56 12)=spec_l92Numbered.T12:=by kernel_rfl
theorem spec_l92Numbered.bits12:waitsOk spec_l92Numbered.T12.2 spec_l92Numbered.B12=true:=by kernel_rfl
set_option maxHeartbeats 8000000 in
set_option maxRecDepth 100000 in
theorem spec_l92Numbered.calls (k:Nat) (g:Nat) (s0_0:List Int) (s0_1:Int) (r1:List (S39)) (r2:Bool) (r3:Bool) (r4:Int) (r5:Int) (r6:Int) (r7:List (S79)) (r8:Int) (w0 w:World) (hI:IsS92 w0 w g s0_0 s0_1) (hB:Below w0.heap.size w0 w) (h:spec_l92Numbered.f k s0_0 s0_1=some (r1,r2,r3,r4,r5,r6,r7,r8)) :
  Calls Try.prog 56 #[.pointer (some ⟨g,0,none⟩)] w fun e w'=>∃ v0_ v6_:Value,e = .returned (.tuple #[v0_,.agg #[.bool r2,.bool r3,.int .i64 r4,.int .i64 r5,.int .i64 r6,v6_]])∧Kd.R k39 39 w' w.heap.size (fun k_=>(w.heap.size ≤ k_)) v0_ r1∧Kd.N k79 79 w' w.heap.size (fun k_=>(w.heap.size ≤ k_)∧some k_ ≠ (v0_:Value).ownBlock) v6_ r7∧IsS92 w0 w' g s0_0 r8∧Below w0.heap.size w0 w'∧KeepBut w w' g none:=by
 have hu34:=Try.underlying34
 have hu39:=Try.underlying39
 have HI0:=Aside0.mk hI
 have HK:=Aside0.mk (KeepBut.refl w g none)
 have HL:=Aside0.mk hB.size
 clear hI
 have HW0:=Aside0.mk hB.size
 have HB:=Aside0.mk hB
 clear hB
 have H:((spec_l92Producers.f k s0_0 s0_1).bind fun bt314=>((spec_l6Rd_pick.f k s0_0 bt314.2 40).bind fun bt318=>((spec_l91Batch.f k s0_0 bt318.2 bt318.1).bind fun bt320=>(if (bt314.1.length:Int) > 0 then ((spec_l6Rd_pick.f k s0_0 bt320.2.2.2.2.2.2 4).bind fun bt330=>(spec_l92Numbered.j0 k bt314.1 (decide (bt330.1 > 0)) s0_0 bt330.2 bt320.1 bt320.2.1 bt320.2.2.1 bt320.2.2.2.1 bt320.2.2.2.2.1 bt320.2.2.2.2.2.1)) else (spec_l92Numbered.j0 k bt314.1 false s0_0 bt320.2.2.2.2.2.2 bt320.1 bt320.2.1 bt320.2.2.1 bt320.2.2.2.1 bt320.2.2.2.2.1 bt320.2.2.2.2.2.1)))))=some (r1,r2,r3,r4,r5,r6,r7,r8):=h
 clear h
 replace H:=Option.bind_eq_some_iff.mp H
 obtain ⟨⟨t314,t317⟩,A20,H⟩:=H
 replace H:((spec_l6Rd_pick.f k s0_0 t317 40).bind fun bt318=>((spec_l91Batch.f k s0_0 bt318.2 bt318.1).bind fun bt320=>(if (t314.length:Int) > 0 then ((spec_l6Rd_pick.f k s0_0 bt320.2.2.2.2.2.2 4).bind fun bt330=>(spec_l92Numbered.j0 k t314 (decide (bt330.1 > 0)) s0_0 bt330.2 bt320.1 bt320.2.1 bt320.2.2.1 bt320.2.2.2.1 bt320.2.2.2.2.1 bt320.2.2.2.2.2.1)) else (spec_l92Numbered.j0 k t314 false s0_0 bt320.2.2.2.2.2.2 bt320.1 bt320.2.1 bt320.2.2.1 bt320.2.2.2.1 bt320.2.2.2.2.1 bt320.2.2.2.2.2.1))))=some (r1,r2,r3,r4,r5,r6,r7,r8):=H
 have A2:=Aside0.mk A20
 clear A20
 replace H:=Option.bind_eq_some_iff.mp H
 obtain ⟨⟨t318,t319⟩,A30,H⟩:=H
 replace H:((spec_l91Batch.f k s0_0 t319 t318).bind fun bt320=>(if (t314.length:Int) > 0 then ((spec_l6Rd_pick.f k s0_0 bt320.2.2.2.2.2.2 4).bind fun bt330=>(spec_l92Numbered.j0 k t314 (decide (bt330.1 > 0)) s0_0 bt330.2 bt320.1 bt320.2.1 bt320.2.2.1 bt320.2.2.2.1 bt320.2.2.2.2.1 bt320.2.2.2.2.2.1)) else (spec_l92Numbered.j0 k t314 false s0_0 bt320.2.2.2.2.2.2 bt320.1 bt320.2.1 bt320.2.2.1 bt320.2.2.2.1 bt320.2.2.2.2.1 bt320.2.2.2.2.2.1)))=some (r1,r2,r3,r4,r5,r6,r7,r8):=H
 have A3:=Aside0.mk A30
 clear A30
 replace H:=Option.bind_eq_some_iff.mp H
 obtain ⟨⟨t320,t321,t322,t323,t324,t325,t328⟩,A40,H⟩:=H
 replace H:(if (t314.length:Int) > 0 then ((spec_l6Rd_pick.f k s0_0 t328 4).bind fun bt330=>(spec_l92Numbered.j0 k t314 (decide (bt330.1 > 0)) s0_0 bt330.2 t320 t321 t322 t323 t324 t325)) else (spec_l92Numbered.j0 k t314 false s0_0 t328 t320 t321 t322 t323 t324 t325))=some (r1,r2,r3,r4,r5,r6,r7,r8):=H
 have A4:=Aside0.mk A40
 clear A40
 have HC5:=Aside0.mk H
 clear H
 go_enter Try.func56,Try.ntmps56
 go_upto_region 3 with (first|((with_reducible refine gate_dst (N:=3) rfl ?_);refine box_event ?hg (N:=3) ?hd (cs:=#[.bool false,.bool false,.int .i64 0,.int .i64 0,.int .i64 0,.slice none 0 0]) (t:=34) ?hr ?_;(case hd=>rfl);(case hg=>rfl);(case hr=>first|(go_simp;done)|(go_simp;rfl));intro gb313 hg w6 hbox hb;have n0_:=Aside0.mk (IsS92.below (by repeat (first|(with_reducible first|exact HI0.out|apply IsS92.alloc|apply IsS92.drewN|apply IsS92.drew|apply IsS92.set_1)|exact HI0.out)) hb);have n1_:=Aside0.mk (KeepBut.trans (by repeat (first|(with_reducible first|exact HK.out|apply KeepBut.set_|apply keep_drewN|apply keep_drew|apply keep_alloc)|exact HK.out)) (KeepBut.of_below hb g none) (.inl rfl));have n2_:=Aside0.mk (below_step (by repeat (first|(with_reducible first|exact HB.out|apply below_alloc|apply pw_below_drewN|apply below_drew1|refine below_set ?_ (IsS92.ge HI0.out))|exact HB.out)) hb);have n3_:=Aside0.mk (hbox);have n4_:=Aside0.mk ((by rw [hg];exact (keep_size (w:=w) (g:=g) (row:=none) (by repeat (first|(with_reducible first|exact HK.out|apply KeepBut.set_|apply keep_drewN|apply keep_drew|apply keep_alloc)|exact HK.out))):w.heap.size ≤ gb313));have n5_:=Aside0.mk ((Nat.le_trans HW0.out (by rw [hg];exact (keep_size (w:=w) (g:=g) (row:=none) (by repeat (first|(with_reducible first|exact HK.out|apply KeepBut.set_|apply keep_drewN|apply keep_drew|apply keep_alloc)|exact HK.out))):w.heap.size ≤ gb313):w0.heap.size ≤ gb313));have n6_:=Aside0.mk ((by rw [hg];exact Nat.ne_of_lt (IsS92.lt (show IsS92 w0 _ g s0_0 s0_1 from by repeat (first|(with_reducible first|exact HI0.out|apply IsS92.alloc|apply IsS92.drewN|apply IsS92.drew|apply IsS92.set_1)|exact HI0.out))):g ≠ gb313));have n7_:=Aside0.mk ((by rw [hg];exact Nat.ne_of_gt (IsS92.lt (show IsS92 w0 _ g s0_0 s0_1 from by repeat (first|(with_reducible first|exact HI0.out|apply IsS92.alloc|apply IsS92.drewN|apply IsS92.drew|apply IsS92.set_1)|exact HI0.out))):gb313 ≠ g));clear HI0 HK HB;have HI0:=n0_;have HK:=n1_;have HB:=n2_;have BK313:=n3_;have GW313:=n4_;have GE313:=n5_;have NB0_313:=n6_;have NB313_0:=n7_;clear n0_ n1_ n2_ n3_ n4_ n5_ n6_ n7_;clear hb hbox hg)|((with_reducible refine gate_callee (f:=49) rfl ?_);refine goesL_ (some 8) rfl rfl Try.func49 (by kernel_rfl) rfl #[.pointer (some ⟨g,0,none⟩)] rfl (by (try simp only [map_toArray,map_cons,map_nil]);first|done|rfl|(simp only [length_drop,length_take];rfl)) ?_;(with_reducible refine (spec_l92Producers.calls k g s0_0 s0_1 t314 t317 w0 _ ?side1 ?side2 A2.out).mono ?_);(case side1=>repeat (first|(with_reducible first|exact HI0.out|apply IsS92.alloc|apply IsS92.drewN|apply IsS92.drew|apply IsS92.set_1|refine IsS92.far ?_ NB0_313.out _)|exact HI0.out));(case side2=>repeat (first|(with_reducible first|exact HB.out|apply below_alloc|apply pw_below_drewN|apply below_drew1|refine below_set ?_ (IsS92.ge HI0.out)|refine below_set ?_ GE313.out)|exact HB.out));rintro e w7 ⟨v315,rfl,ho0,hi,hb,hk⟩;refine ⟨_,rfl,?_⟩;have n0_:=Aside0.mk (KeepBut.blk hk (g':=gb313) (o:=.cells #[.bool false,.bool false,.int .i64 0,.int .i64 0,.int .i64 0,.slice none 0 0] 34 (0,0)) (by (with_reducible repeat (first|refine blk_drewN ?_ _|refine blk_drew ?_|refine blk_alloc ?_ _));exact BK313.out) NB313_0.out (by simp));have n1_:=Aside0.mk (Kd.R_lower (Kd.R_newM (M:=fun k_=>(w.heap.size ≤ k_)) ho0 (keep_size (w:=w) (g:=g) (row:=none) (by repeat (first|(with_reducible first|exact HK.out|apply KeepBut.set_|apply keep_drewN|apply keep_drew|apply keep_alloc|refine keep_far ?_ GW313.out _)|exact HK.out))) (fun k_ h_=>h_)) (keep_size (w:=w) (g:=g) (row:=none) (by repeat (first|(with_reducible first|exact HK.out|apply KeepBut.set_|apply keep_drewN|apply keep_drew|apply keep_alloc|refine keep_far ?_ GW313.out _)|exact HK.out))));have n2_:=Aside0.mk (KeepBut.trans (by repeat (first|(with_reducible first|exact HK.out|apply KeepBut.set_|apply keep_drewN|apply keep_drew|apply keep_alloc|refine keep_far ?_ GW313.out _)|exact HK.out)) hk (.inl rfl));have n3_:=Aside0.mk (hb);have n4_:=Aside0.mk (hi);clear BK313 HK HB HI0;have BK313:=n0_;have HO316:=n1_;have HK:=n2_;have HB:=n3_;have HI0:=n4_;clear n0_ n1_ n2_ n3_ n4_;(try clear hb);(try clear hb2);(try clear hk);(try clear hi);(try clear ho0))|((with_reducible refine gate_callee (f:=67) rfl ?_);refine goesL_ (some 11) rfl rfl Try.func67 (by kernel_rfl) rfl #[.pointer (some ⟨g,0,none⟩),.int .i64 40] rfl (by (try simp only [map_toArray,map_cons,map_nil]);first|done|rfl|(simp only [length_drop,length_take];rfl)) ?_;(with_reducible refine (spec_l6Rd_pick.calls k g s0_0 t317 40 t318 t319 w0 _ ?side1 ?side2 A3.out).mono ?_);(case side1=>repeat (first|(with_reducible first|exact HI0.out|apply IsS92.alloc|apply IsS92.drewN|apply IsS92.drew|apply IsS92.set_1|refine IsS92.far ?_ NB0_313.out _)|exact HI0.out));(case side2=>repeat (first|(with_reducible first|exact HB.out|apply below_alloc|apply pw_below_drewN|apply below_drew1|refine below_set ?_ (IsS92.ge HI0.out)|refine below_set ?_ GE313.out)|exact HB.out));rintro e w8 ⟨rfl,hi,hb,hk⟩;refine ⟨_,rfl,?_⟩;have n0_:=Aside0.mk (KeepBut.blk hk (g':=gb313) (o:=.cells #[.bool false,.bool false,.int .i64 0,.int .i64 0,.int .i64 0,.slice none 0 0] 34 (0,0)) (by (with_reducible repeat (first|refine blk_drewN ?_ _|refine blk_drew ?_|refine blk_alloc ?_ _));exact BK313.out) NB313_0.out (by simp));have n1_:=Aside0.mk (Kd.R_mono (Kd.R_keep (IsS92.apart (show IsS92 w0 _ g s0_0 t317 from by repeat (first|(with_reducible first|exact HI0.out|apply IsS92.alloc|apply IsS92.drewN|apply IsS92.drew|apply IsS92.set_1|refine IsS92.far ?_ NB0_313.out _)|exact HI0.out)) (by (with_reducible repeat (first|apply Kd.R_alloc|apply Kd.R_drewN|apply Kd.R_drew));exact HO316.out) (by decide)) hk (fun _ h=>h.2)) (fun _ h=>h.1));have n2_:=Aside0.mk (KeepBut.trans (by repeat (first|(with_reducible first|exact HK.out|apply KeepBut.set_|apply keep_drewN|apply keep_drew|apply keep_alloc|refine keep_far ?_ GW313.out _)|exact HK.out)) hk (.inl rfl));have n3_:=Aside0.mk (hb);have n4_:=Aside0.mk (hi);clear BK313 HO316 HK HB HI0;have BK313:=n0_;have HO316:=n1_;have HK:=n2_;have HB:=n3_;have HI0:=n4_;clear n0_ n1_ n2_ n3_ n4_;(try clear hb);(try clear hb2);(try clear hk);(try clear hi))|((with_reducible refine gate_callee (f:=68) rfl ?_);refine goesL_ (some 12) rfl rfl Try.func68 (by kernel_rfl) rfl #[.pointer (some ⟨g,0,none⟩),.int .i64 t318] rfl (by (try simp only [map_toArray,map_cons,map_nil]);first|done|rfl|(simp only [length_drop,length_take];rfl)) ?_;(with_reducible refine (spec_l91Batch.calls k g s0_0 t319 t318 t320 t321 t322 t323 t324 t325 t328 w0 _ ?side1 ?side2 A4.out).mono ?_);(case side1=>repeat (first|(with_reducible first|exact HI0.out|apply IsS92.alloc|apply IsS92.drewN|apply IsS92.drew|apply IsS92.set_1|refine IsS92.far ?_ NB0_313.out _)|exact HI0.out));(case side2=>repeat (first|(with_reducible first|exact HB.out|apply below_alloc|apply pw_below_drewN|apply below_drew1|refine below_set ?_ (IsS92.ge HI0.out)|refine below_set ?_ GE313.out)|exact HB.out));rintro e w9 ⟨v326,rfl,ho0,hi,hb,hk⟩;refine ⟨_,rfl,?_⟩;have n0_:=Aside0.mk (KeepBut.blk hk (g':=gb313) (o:=.cells #[.bool false,.bool false,.int .i64 0,.int .i64 0,.int .i64 0,.slice none 0 0] 34 (0,0)) (by (with_reducible repeat (first|refine blk_drewN ?_ _|refine blk_drew ?_|refine blk_alloc ?_ _));exact BK313.out) NB313_0.out (by simp));have n1_:=Aside0.mk (Kd.R_mono (Kd.R_keep (IsS92.apart (show IsS92 w0 _ g s0_0 t319 from by repeat (first|(with_reducible first|exact HI0.out|apply IsS92.alloc|apply IsS92.drewN|apply IsS92.drew|apply IsS92.set_1|refine IsS92.far ?_ NB0_313.out _)|exact HI0.out)) (by (with_reducible repeat (first|apply Kd.R_alloc|apply Kd.R_drewN|apply Kd.R_drew));exact HO316.out) (by decide)) hk (fun _ h=>h.2)) (fun _ h=>h.1));have n2_:=Aside0.mk (Kd.N_lower (Kd.N_mono (ok':=fun k_=>(w.heap.size ≤ k_)∧some k_ ≠ (v315:Value).ownBlock∧k_ ≠ gb313∧k_ ≠ g) ho0 (fun k_ hk_=>⟨(Nat.le_trans (keep_size (w:=w) (g:=g) (row:=none) (by repeat (first|(with_reducible first|exact HK.out|apply KeepBut.set_|apply keep_drewN|apply keep_drew|apply keep_alloc|refine keep_far ?_ GW313.out _)|exact HK.out))) hk_),(Kd.fresh' (Kd.R_lt (by (with_reducible repeat (first|apply Kd.R_alloc|apply Kd.R_drewN|apply Kd.R_drew));exact HO316.out)) k_ hk_),(Kd.freshB (g:=gb313) (o:=.cells #[.bool false,.bool false,.int .i64 0,.int .i64 0,.int .i64 0,.slice none 0 0] 34 (0,0)) (by (with_reducible repeat (first|refine blk_drewN ?_ _|refine blk_drew ?_|refine blk_alloc ?_ _));exact BK313.out) k_ hk_),(IsS92.fresh (by repeat (first|(with_reducible first|exact HI0.out|apply IsS92.alloc|apply IsS92.drewN|apply IsS92.drew|apply IsS92.set_1|refine IsS92.far ?_ NB0_313.out _)|exact HI0.out)) k_ hk_)⟩)) (keep_size (w:=w) (g:=g) (row:=none) (by repeat (first|(with_reducible first|exact HK.out|apply KeepBut.set_|apply keep_drewN|apply keep_drew|apply keep_alloc|refine keep_far ?_ GW313.out _)|exact HK.out))));have n3_:=Aside0.mk (KeepBut.trans (by repeat (first|(with_reducible first|exact HK.out|apply KeepBut.set_|apply keep_drewN|apply keep_drew|apply keep_alloc|refine keep_far ?_ GW313.out _)|exact HK.out)) hk (.inl rfl));have n4_:=Aside0.mk (hb);have n5_:=Aside0.mk (hi);clear BK313 HO316 HK HB HI0;have BK313:=n0_;have HO316:=n1_;have HO327:=n2_;have HK:=n3_;have HB:=n4_;have HI0:=n5_;clear n0_ n1_ n2_ n3_ n4_ n5_;(try clear hb);(try clear hb2);(try clear hk);(try clear hi);(try clear ho0))|((with_reducible refine gate_dst (N:=5) rfl ?_);refine box_event ?hg (N:=5) ?hd (cs:=#[.bool false,.bool false,.int .i64 0,.int .i64 0,.int .i64 0,.slice none 0 0]) (t:=34) ?hr ?_;(case hd=>rfl);(case hg=>rfl);(case hr=>first|(go_simp;done)|(go_simp;rfl));intro gb329 hg w10 hbox hb;have n0_:=Aside0.mk (Kd.R_below (by (with_reducible repeat (first|apply Kd.R_alloc|apply Kd.R_drewN|apply Kd.R_drew));exact HO316.out) hb);have n1_:=Aside0.mk (Kd.N_below (Kd.N_elderB (by (with_reducible repeat (first|apply Kd.N_alloc|apply Kd.N_drewN|apply Kd.N_drew));exact HO327.out) gb329 (Nat.le_of_eq hg.symm)) hb);have n2_:=Aside0.mk (IsS92.below (by repeat (first|(with_reducible first|exact HI0.out|apply IsS92.alloc|apply IsS92.drewN|apply IsS92.drew|apply IsS92.set_1|refine IsS92.far ?_ NB0_313.out _)|exact HI0.out)) hb);have n3_:=Aside0.mk (blk_below (g:=gb313) (o:=.cells #[.bool false,.bool false,.int .i64 0,.int .i64 0,.int .i64 0,.slice none 0 0] 34 (0,0)) (by (with_reducible repeat (first|refine blk_drewN ?_ _|refine blk_drew ?_|refine blk_alloc ?_ _));exact BK313.out) hb);have n4_:=Aside0.mk (KeepBut.trans (by repeat (first|(with_reducible first|exact HK.out|apply KeepBut.set_|apply keep_drewN|apply keep_drew|apply keep_alloc|refine keep_far ?_ GW313.out _)|exact HK.out)) (KeepBut.of_below hb g none) (.inl rfl));have n5_:=Aside0.mk (below_step (by repeat (first|(with_reducible first|exact HB.out|apply below_alloc|apply pw_below_drewN|apply below_drew1|refine below_set ?_ (IsS92.ge HI0.out)|refine below_set ?_ GE313.out)|exact HB.out)) hb);have n6_:=Aside0.mk (hbox);have n7_:=Aside0.mk ((by rw [hg];exact (keep_size (w:=w) (g:=g) (row:=none) (by repeat (first|(with_reducible first|exact HK.out|apply KeepBut.set_|apply keep_drewN|apply keep_drew|apply keep_alloc|refine keep_far ?_ GW313.out _)|exact HK.out))):w.heap.size ≤ gb329));have n8_:=Aside0.mk ((Nat.le_trans HW0.out (by rw [hg];exact (keep_size (w:=w) (g:=g) (row:=none) (by repeat (first|(with_reducible first|exact HK.out|apply KeepBut.set_|apply keep_drewN|apply keep_drew|apply keep_alloc|refine keep_far ?_ GW313.out _)|exact HK.out))):w.heap.size ≤ gb329):w0.heap.size ≤ gb329));have n9_:=Aside0.mk ((by rw [hg];exact Nat.ne_of_lt (blk_lt (g:=gb313) (o:=.cells #[.bool false,.bool false,.int .i64 0,.int .i64 0,.int .i64 0,.slice none 0 0] 34 (0,0)) (by (with_reducible repeat (first|refine blk_drewN ?_ _|refine blk_drew ?_|refine blk_alloc ?_ _));exact BK313.out)):gb313 ≠ gb329));have n10_:=Aside0.mk ((by rw [hg];exact Nat.ne_of_gt (blk_lt (g:=gb313) (o:=.cells #[.bool false,.bool false,.int .i64 0,.int .i64 0,.int .i64 0,.slice none 0 0] 34 (0,0)) (by (with_reducible repeat (first|refine blk_drewN ?_ _|refine blk_drew ?_|refine blk_alloc ?_ _));exact BK313.out)):gb329 ≠ gb313));have n11_:=Aside0.mk ((by rw [hg];exact Nat.ne_of_lt (IsS92.lt (show IsS92 w0 _ g s0_0 t328 from by repeat (first|(with_reducible first|exact HI0.out|apply IsS92.alloc|apply IsS92.drewN|apply IsS92.drew|apply IsS92.set_1|refine IsS92.far ?_ NB0_313.out _)|exact HI0.out))):g ≠ gb329));have n12_:=Aside0.mk ((by rw [hg];exact Nat.ne_of_gt (IsS92.lt (show IsS92 w0 _ g s0_0 t328 from by repeat (first|(with_reducible first|exact HI0.out|apply IsS92.alloc|apply IsS92.drewN|apply IsS92.drew|apply IsS92.set_1|refine IsS92.far ?_ NB0_313.out _)|exact HI0.out))):gb329 ≠ g));clear HO316 HO327 HI0 BK313 HK HB;have HO316:=n0_;have HO327:=n1_;have HI0:=n2_;have BK313:=n3_;have HK:=n4_;have HB:=n5_;have BK329:=n6_;have GW329:=n7_;have GE329:=n8_;have NB313_329:=n9_;have NB329_313:=n10_;have NB0_329:=n11_;have NB329_0:=n12_;clear n0_ n1_ n2_ n3_ n4_ n5_ n6_ n7_ n8_ n9_ n10_ n11_ n12_;clear hb hbox hg;have hnb11:=NB329_313.out;have hnc11:=NB313_329.out;have hnb12:=NB329_0.out;have hnc12:=NB0_329.out;have hcz13_0:w10.cell? ⟨gb329,0,none⟩=some (.bool false):=(blk_cell BK329.out 0).trans rfl;have hcz13_1:w10.cell? ⟨gb329,1,none⟩=some (.bool false):=(blk_cell BK329.out 1).trans rfl;have hcz13_2:w10.cell? ⟨gb329,2,none⟩=some (.int .i64 0):=(blk_cell BK329.out 2).trans rfl;have hcz13_3:w10.cell? ⟨gb329,3,none⟩=some (.int .i64 0):=(blk_cell BK329.out 3).trans rfl;have hcz13_4:w10.cell? ⟨gb329,4,none⟩=some (.int .i64 0):=(blk_cell BK329.out 4).trans rfl;have hcz13_5:w10.cell? ⟨gb329,5,none⟩=some (.slice none 0 0):=(blk_cell BK329.out 5).trans rfl;have hfz13_0:=blk_frozen BK329.out 0;have hfz13_1:=blk_frozen BK329.out 1;have hfz13_2:=blk_frozen BK329.out 2;have hfz13_3:=blk_frozen BK329.out 3;have hfz13_4:=blk_frozen BK329.out 4;have hfz13_5:=blk_frozen BK329.out 5;obtain ⟨Ao14,co14,eo14⟩:=Kd.N_slice HO327.out;subst eo14))
 (try simp only [Act.put,setIfInBounds_toArray,set_cons_zero,set_cons_succ])
 go_cut [20] (fun v20 wc=>∃ (kq:Nat) (x20_4:Bool) (x1001_4:Int),v20 = .bool x20_4∧Aside0 (spec_l92Numbered.j0 kq t314 x20_4 s0_0 x1001_4 t320 t321 t322 t323 t324 t325=some (r1,r2,r3,r4,r5,r6,r7,r8))∧Aside0 (kq ≤ k)∧Aside0 (Kd.R k39 39 wc w.heap.size (fun k_=>(w.heap.size ≤ k_)) v315 t314)∧Aside0 (Kd.N k79 79 wc w.heap.size (fun k_=>(w.heap.size ≤ k_)∧some k_ ≠ (v315:Value).ownBlock∧k_ ≠ gb313∧k_ ≠ gb329∧k_ ≠ g) (.slice Ao14 t325.length co14) t325)∧Aside0 (wc.heap[gb313]? = some (.cells #[.bool false,.bool false,.int .i64 0,.int .i64 0,.int .i64 0,(.slice none 0 0)] 34 (0,0)))∧Aside0 (wc.heap[gb329]? = some (.cells #[.bool t320,.bool t321,.int .i64 t322,.int .i64 t323,.int .i64 t324,(.slice Ao14 t325.length co14)] 34 (0,0)))∧Aside0 (IsS92 w0 wc g s0_0 x1001_4)∧Aside0 (KeepBut w wc g none)∧Aside0 (Below w0.heap.size w0 wc))
 case first=>
  have H:=HC5.out
  clear HC5
  by_cases c15:(t314.length:Int) > 0
  ·rw [if_pos c15] at H
   have c15b0:decide (0 < (t314.length:Int))=true:=decide_eq_true c15
   have c15b1:decide (0 < t314.length)=true:=decide_eq_true (by omega)
   clear c15
   (first|rw [c15b0]|(simp only [i64_w,i32_w];rw [c15b0])|skip)
   replace H:=Option.bind_eq_some_iff.mp H
   obtain ⟨⟨t330,t331⟩,A160,H⟩:=H
   replace H:(spec_l92Numbered.j0 k t314 (decide (t330 > 0)) s0_0 t331 t320 t321 t322 t323 t324 t325)=some (r1,r2,r3,r4,r5,r6,r7,r8):=H
   have A16:=Aside0.mk A160
   clear A160
   have H':=Aside0.mk H
   clear H
   obtain ⟨Ao17,co17,eo17⟩:=Kd.R_slice HO316.out
   subst eo17
   go_wp2_with (first|(go_at_call 67;(with_reducible refine (spec_l6Rd_pick.calls k g s0_0 t328 4 t330 t331 w0 _ ?side1 ?side2 A16.out).mono ?_);(case side1=>repeat (first|(with_reducible first|exact HI0.out|apply IsS92.alloc|apply IsS92.drewN|apply IsS92.drew|apply IsS92.set_1|refine IsS92.far ?_ NB0_313.out _|refine IsS92.far ?_ NB0_329.out _)|exact HI0.out));(case side2=>repeat (first|(with_reducible first|exact HB.out|apply below_alloc|apply pw_below_drewN|apply below_drew1|refine below_set ?_ (IsS92.ge HI0.out)|refine below_set ?_ GE313.out|refine below_set ?_ GE329.out)|exact HB.out));rintro e w18 ⟨rfl,hi,hb,hk⟩;have n0_:=Aside0.mk (KeepBut.blk hk (g':=gb313) (o:=.cells #[.bool false,.bool false,.int .i64 0,.int .i64 0,.int .i64 0,.slice none 0 0] 34 (0,0)) (by (with_reducible repeat (first|refine blk_drewN ?_ _|refine blk_drew ?_|refine blk_alloc ?_ _));refine blk_far ?_ NB313_329.out _;(with_reducible repeat (first|refine blk_drewN ?_ _|refine blk_drew ?_|refine blk_alloc ?_ _));refine blk_far ?_ NB313_329.out _;(with_reducible repeat (first|refine blk_drewN ?_ _|refine blk_drew ?_|refine blk_alloc ?_ _));refine blk_far ?_ NB313_329.out _;(with_reducible repeat (first|refine blk_drewN ?_ _|refine blk_drew ?_|refine blk_alloc ?_ _));refine blk_far ?_ NB313_329.out _;(with_reducible repeat (first|refine blk_drewN ?_ _|refine blk_drew ?_|refine blk_alloc ?_ _));refine blk_far ?_ NB313_329.out _;(with_reducible repeat (first|refine blk_drewN ?_ _|refine blk_drew ?_|refine blk_alloc ?_ _));refine blk_far ?_ NB313_329.out _;(with_reducible repeat (first|refine blk_drewN ?_ _|refine blk_drew ?_|refine blk_alloc ?_ _));exact BK313.out) NB313_0.out (by simp));have n1_:=Aside0.mk (Kd.R_mono (Kd.R_keep (IsS92.apart (show IsS92 w0 _ g s0_0 t328 from by repeat (first|(with_reducible first|exact HI0.out|apply IsS92.alloc|apply IsS92.drewN|apply IsS92.drew|apply IsS92.set_1|refine IsS92.far ?_ NB0_313.out _|refine IsS92.far ?_ NB0_329.out _)|exact HI0.out)) (by (with_reducible repeat (first|apply Kd.R_alloc|apply Kd.R_drewN|apply Kd.R_drew));exact (Kd.R_mono (Kd.R_far (p:=⟨gb329,5,none⟩) (Kd.R_far (p:=⟨gb329,4,none⟩) (Kd.R_far (p:=⟨gb329,3,none⟩) (Kd.R_far (p:=⟨gb329,2,none⟩) (Kd.R_far (p:=⟨gb329,1,none⟩) (Kd.R_far (p:=⟨gb329,0,none⟩) (Kd.R_types HO316.out BK329.out (by decide)) (fun _ hk=>hk.2) (.bool t320)) (fun _ hk=>hk.2) (.bool t321)) (fun _ hk=>hk.2) (.int .i64 t322)) (fun _ hk=>hk.2) (.int .i64 t323)) (fun _ hk=>hk.2) (.int .i64 t324)) (fun _ hk=>hk.2) (.slice Ao14 t325.length co14)) (fun _ h_=>h_.1))) (by decide)) hk (fun _ h=>h.2)) (fun _ h=>h.1));have n2_:=Aside0.mk (Kd.N_mono (Kd.N_keep (Kd.N_mono (ok:=fun k_=>((((w.heap.size ≤ k_))∧(some k_ ≠ (.slice Ao17 t314.length co17:Value).ownBlock∧(k_ ≠ gb313∧k_ ≠ g)))∧k_ ≠ gb329)) (by (with_reducible repeat (first|apply Kd.N_alloc|apply Kd.N_drewN|apply Kd.N_drew));exact (Kd.N_mono (Kd.N_far (p:=⟨gb329,5,none⟩) (Kd.N_far (p:=⟨gb329,4,none⟩) (Kd.N_far (p:=⟨gb329,3,none⟩) (Kd.N_far (p:=⟨gb329,2,none⟩) (Kd.N_far (p:=⟨gb329,1,none⟩) (Kd.N_far (p:=⟨gb329,0,none⟩) (Kd.N_mono HO327.out (fun k_ hk=>(⟨hk,hk.2⟩:_∧k_ ≠ gb329))) (fun _ hk=>hk.2) (.bool t320)) (fun _ hk=>hk.2) (.bool t321)) (fun _ hk=>hk.2) (.int .i64 t322)) (fun _ hk=>hk.2) (.int .i64 t323)) (fun _ hk=>hk.2) (.int .i64 t324)) (fun _ hk=>hk.2) (.slice Ao14 t325.length co14)) (fun _ h_=>h_.1))) (fun k_ hk_=>(⟨hk_,hk_.1.2.2.2⟩:_∧k_ ≠ g))) hk (fun _ h=>h.2)) (fun _ h=>h.1));have n3_:=Aside0.mk (KeepBut.blk hk (g':=gb329) (o:=.cells #[.bool t320,.bool t321,.int .i64 t322,.int .i64 t323,.int .i64 t324,.slice Ao14 t325.length co14] 34 (0,0)) (by (with_reducible repeat (first|refine blk_drewN ?_ _|refine blk_drew ?_|refine blk_alloc ?_ _));refine blk_put (cs:=#[.bool t320,.bool t321,.int .i64 t322,.int .i64 t323,.int .i64 t324,.slice none 0 0]) ?_ 5 _ rfl;(with_reducible repeat (first|refine blk_drewN ?_ _|refine blk_drew ?_|refine blk_alloc ?_ _));refine blk_put (cs:=#[.bool t320,.bool t321,.int .i64 t322,.int .i64 t323,.int .i64 0,.slice none 0 0]) ?_ 4 _ rfl;(with_reducible repeat (first|refine blk_drewN ?_ _|refine blk_drew ?_|refine blk_alloc ?_ _));refine blk_put (cs:=#[.bool t320,.bool t321,.int .i64 t322,.int .i64 0,.int .i64 0,.slice none 0 0]) ?_ 3 _ rfl;(with_reducible repeat (first|refine blk_drewN ?_ _|refine blk_drew ?_|refine blk_alloc ?_ _));refine blk_put (cs:=#[.bool t320,.bool t321,.int .i64 0,.int .i64 0,.int .i64 0,.slice none 0 0]) ?_ 2 _ rfl;(with_reducible repeat (first|refine blk_drewN ?_ _|refine blk_drew ?_|refine blk_alloc ?_ _));refine blk_put (cs:=#[.bool t320,.bool false,.int .i64 0,.int .i64 0,.int .i64 0,.slice none 0 0]) ?_ 1 _ rfl;(with_reducible repeat (first|refine blk_drewN ?_ _|refine blk_drew ?_|refine blk_alloc ?_ _));refine blk_put (cs:=#[.bool false,.bool false,.int .i64 0,.int .i64 0,.int .i64 0,.slice none 0 0]) ?_ 0 _ rfl;(with_reducible repeat (first|refine blk_drewN ?_ _|refine blk_drew ?_|refine blk_alloc ?_ _));exact BK329.out) NB329_0.out (by simp));have n4_:=Aside0.mk (KeepBut.trans (by repeat (first|(with_reducible first|exact HK.out|apply KeepBut.set_|apply keep_drewN|apply keep_drew|apply keep_alloc|refine keep_far ?_ GW313.out _|refine keep_far ?_ GW329.out _)|exact HK.out)) hk (.inl rfl));have n5_:=Aside0.mk (hb);have n6_:=Aside0.mk (hi);clear BK313 HO316 HO327 BK329 HK HB HI0;have BK313:=n0_;have HO316:=n1_;have HO327:=n2_;have BK329:=n3_;have HK:=n4_;have HB:=n5_;have HI0:=n6_;clear n0_ n1_ n2_ n3_ n4_ n5_ n6_;(try clear hb);(try clear hb2);(try clear hk);(try clear hi)))
   go_meet
   case rel=>exact ⟨_,(decide (t330 > 0)),(t331),(by first|rfl|(simp;done)|(simp [*];done)),H',⟨by first|omega|exact Nat.le_refl _⟩,⟨by (with_reducible repeat (first|apply Kd.R_alloc|apply Kd.R_drewN|apply Kd.R_drew));exact Kd.R_mono HO316.out (fun _ hk=>hk.1)⟩,⟨by (with_reducible repeat (first|apply Kd.N_alloc|apply Kd.N_drewN|apply Kd.N_drew));exact Kd.N_mono HO327.out (fun _ hk=>⟨hk.1.1,⟨hk.1.2.1,⟨hk.1.2.2.1,⟨hk.2,hk.1.2.2.2⟩⟩⟩⟩)⟩,⟨by (with_reducible repeat (first|refine blk_drewN ?_ _|refine blk_drew ?_|refine blk_alloc ?_ _));exact BK313.out⟩,⟨by (with_reducible repeat (first|refine blk_drewN ?_ _|refine blk_drew ?_|refine blk_alloc ?_ _));exact BK329.out⟩,⟨by repeat (first|(with_reducible first|exact HI0.out|apply IsS92.alloc|apply IsS92.drewN|apply IsS92.drew|apply IsS92.set_1|refine IsS92.far ?_ NB0_313.out _|refine IsS92.far ?_ NB0_329.out _)|exact HI0.out)⟩,⟨by repeat (first|(with_reducible first|exact HK.out|apply KeepBut.set_|apply keep_drewN|apply keep_drew|apply keep_alloc|refine keep_far ?_ GW313.out _|refine keep_far ?_ GW329.out _)|exact HK.out)⟩,⟨by repeat (first|(with_reducible first|exact HB.out|apply below_alloc|apply pw_below_drewN|apply below_drew1|refine below_set ?_ (IsS92.ge HI0.out)|refine below_set ?_ GE313.out|refine below_set ?_ GE329.out)|exact HB.out)⟩⟩
  ·rw [if_neg c15] at H
   have c15b0:decide (0 < (t314.length:Int))=false:=decide_eq_false c15
   have c15b1:decide (0 < t314.length)=false:=decide_eq_false (by omega)
   clear c15
   (first|rw [c15b0]|(simp only [i64_w,i32_w];rw [c15b0])|skip)
   have H':=Aside0.mk H
   clear H
   obtain ⟨Ao19,co19,eo19⟩:=Kd.R_slice HO316.out
   subst eo19
   go_wp2
   go_meet
   case rel=>exact ⟨_,(false),(t328),(by first|rfl|(simp;done)|(simp [*];done)),H',⟨by first|omega|exact Nat.le_refl _⟩,⟨by (with_reducible repeat (first|apply Kd.R_alloc|apply Kd.R_drewN|apply Kd.R_drew));exact Kd.R_mono (Kd.R_far (p:=⟨gb329,5,none⟩) (Kd.R_far (p:=⟨gb329,4,none⟩) (Kd.R_far (p:=⟨gb329,3,none⟩) (Kd.R_far (p:=⟨gb329,2,none⟩) (Kd.R_far (p:=⟨gb329,1,none⟩) (Kd.R_far (p:=⟨gb329,0,none⟩) (Kd.R_types HO316.out BK329.out (by decide)) (fun _ hk=>hk.2) (.bool t320)) (fun _ hk=>hk.2) (.bool t321)) (fun _ hk=>hk.2) (.int .i64 t322)) (fun _ hk=>hk.2) (.int .i64 t323)) (fun _ hk=>hk.2) (.int .i64 t324)) (fun _ hk=>hk.2) (.slice Ao14 t325.length co14)) (fun _ hk=>hk.1.1)⟩,⟨by (with_reducible repeat (first|apply Kd.N_alloc|apply Kd.N_drewN|apply Kd.N_drew));exact Kd.N_mono (Kd.N_far (p:=⟨gb329,5,none⟩) (Kd.N_far (p:=⟨gb329,4,none⟩) (Kd.N_far (p:=⟨gb329,3,none⟩) (Kd.N_far (p:=⟨gb329,2,none⟩) (Kd.N_far (p:=⟨gb329,1,none⟩) (Kd.N_far (p:=⟨gb329,0,none⟩) (Kd.N_mono HO327.out (fun k_ hk=>(⟨hk,hk.2⟩:_∧k_ ≠ gb329))) (fun _ hk=>hk.2) (.bool t320)) (fun _ hk=>hk.2) (.bool t321)) (fun _ hk=>hk.2) (.int .i64 t322)) (fun _ hk=>hk.2) (.int .i64 t323)) (fun _ hk=>hk.2) (.int .i64 t324)) (fun _ hk=>hk.2) (.slice Ao14 t325.length co14)) (fun _ hk=>⟨hk.1.1.1,⟨hk.1.1.2.1,⟨hk.1.1.2.2.1,⟨hk.1.2,hk.1.1.2.2.2⟩⟩⟩⟩)⟩,⟨by (with_reducible repeat (first|refine blk_drewN ?_ _|refine blk_drew ?_|refine blk_alloc ?_ _));refine blk_far ?_ NB313_329.out _;(with_reducible repeat (first|refine blk_drewN ?_ _|refine blk_drew ?_|refine blk_alloc ?_ _));refine blk_far ?_ NB313_329.out _;(with_reducible repeat (first|refine blk_drewN ?_ _|refine blk_drew ?_|refine blk_alloc ?_ _));refine blk_far ?_ NB313_329.out _;(with_reducible repeat (first|refine blk_drewN ?_ _|refine blk_drew ?_|refine blk_alloc ?_ _));refine blk_far ?_ NB313_329.out _;(with_reducible repeat (first|refine blk_drewN ?_ _|refine blk_drew ?_|refine blk_alloc ?_ _));refine blk_far ?_ NB313_329.out _;(with_reducible repeat (first|refine blk_drewN ?_ _|refine blk_drew ?_|refine blk_alloc ?_ _));refine blk_far ?_ NB313_329.out _;(with_reducible repeat (first|refine blk_drewN ?_ _|refine blk_drew ?_|refine blk_alloc ?_ _));exact BK313.out⟩,⟨by (with_reducible repeat (first|refine blk_drewN ?_ _|refine blk_drew ?_|refine blk_alloc ?_ _));refine blk_put (cs:=#[.bool t320,.bool t321,.int .i64 t322,.int .i64 t323,.int .i64 t324,.slice none 0 0]) ?_ 5 _ rfl;(with_reducible repeat (first|refine blk_drewN ?_ _|refine blk_drew ?_|refine blk_alloc ?_ _));refine blk_put (cs:=#[.bool t320,.bool t321,.int .i64 t322,.int .i64 t323,.int .i64 0,.slice none 0 0]) ?_ 4 _ rfl;(with_reducible repeat (first|refine blk_drewN ?_ _|refine blk_drew ?_|refine blk_alloc ?_ _));refine blk_put (cs:=#[.bool t320,.bool t321,.int .i64 t322,.int .i64 0,.int .i64 0,.slice none 0 0]) ?_ 3 _ rfl;(with_reducible repeat (first|refine blk_drewN ?_ _|refine blk_drew ?_|refine blk_alloc ?_ _));refine blk_put (cs:=#[.bool t320,.bool t321,.int .i64 0,.int .i64 0,.int .i64 0,.slice none 0 0]) ?_ 2 _ rfl;(with_reducible repeat (first|refine blk_drewN ?_ _|refine blk_drew ?_|refine blk_alloc ?_ _));refine blk_put (cs:=#[.bool t320,.bool false,.int .i64 0,.int .i64 0,.int .i64 0,.slice none 0 0]) ?_ 1 _ rfl;(with_reducible repeat (first|refine blk_drewN ?_ _|refine blk_drew ?_|refine blk_alloc ?_ _));refine blk_put (cs:=#[.bool false,.bool false,.int .i64 0,.int .i64 0,.int .i64 0,.slice none 0 0]) ?_ 0 _ rfl;(with_reducible repeat (first|refine blk_drewN ?_ _|refine blk_drew ?_|refine blk_alloc ?_ _));exact BK329.out⟩,⟨by repeat (first|(with_reducible first|exact HI0.out|apply IsS92.alloc|apply IsS92.drewN|apply IsS92.drew|apply IsS92.set_1|refine IsS92.far ?_ NB0_313.out _|refine IsS92.far ?_ NB0_329.out _)|exact HI0.out)⟩,⟨by repeat (first|(with_reducible first|exact HK.out|apply KeepBut.set_|apply keep_drewN|apply keep_drew|apply keep_alloc|refine keep_far ?_ GW313.out _|refine keep_far ?_ GW329.out _)|exact HK.out)⟩,⟨by repeat (first|(with_reducible first|exact HB.out|apply below_alloc|apply pw_below_drewN|apply below_drew1|refine below_set ?_ (IsS92.ge HI0.out)|refine below_set ?_ GE313.out|refine below_set ?_ GE329.out)|exact HB.out)⟩⟩
 case rest=>
  clear HC5
  try clear c1
  try clear p2
  try clear c4
  try clear c5
  try clear c6
  try clear c11
  try clear c12
  try clear c15
  try clear c15b0
  try clear c15b1
  try clear hcz13_0
  try clear hcz13_1
  try clear hcz13_2
  try clear hcz13_3
  try clear hcz13_4
  try clear hcz13_5
  try clear hfz13_0
  try clear hfz13_1
  try clear hfz13_2
  try clear hfz13_3
  try clear hfz13_4
  try clear hfz13_5
  obtain ⟨kq,x20_4,x1001_4,rfl,HA,HJ4,HO_4,HO_330005,BK313,BK329,HI0,HK,HB⟩:=hcut
  cases kq with
  | zero=>exact absurd HA.out (by simp [spec_l92Numbered.j0])
  | succ kj4=>
   have H:=HA.out
   clear HA
   simp only [spec_l92Numbered.j0] at H
   by_cases c20:x20_4=true
   ·subst c20
    have H1:((spec_l6Rd_pick.f kj4 s0_0 x1001_4 (t314.length:Int)).bind fun bt332=>(if 0 ≤ bt332.1 then (if bt332.1 < (t314.length:Int) then ((spec_l6Rd_pick.f kj4 s0_0 bt332.2 6).bind fun bt336=>(if bt336.1=0 then ((spec_l6Rd_pick.f kj4 s0_0 bt336.2 5).bind fun bt338=>(some (t314,t320,t321,(rd_T39 t314 bt332.1).f0,(rd_T39 t314 bt332.1).f1,mx (wrap64 ((wrap64 (((rd_T39 t314 bt332.1).f2)+bt338.1)) - 2)) 0,t325,bt338.2))) else (if bt336.1=1 then ((spec_l6Rd_pick.f kj4 s0_0 bt336.2 3).bind fun bt340=>((spec_l6Rd_pick.f kj4 s0_0 bt340.2 2).bind fun bt342=>(some (t314,t320,t321,(rd_T39 t314 bt332.1).f0,mx (wrap64 ((wrap64 (((rd_T39 t314 bt332.1).f1)+bt340.1)) - 1)) 0,bt342.1,t325,bt342.2)))) else (some (t314,t320,t321,(rd_T39 t314 bt332.1).f0,(rd_T39 t314 bt332.1).f1,(rd_T39 t314 bt332.1).f2,t325,bt336.2))))) else (none)) else (none)))=some (r1,r2,r3,r4,r5,r6,r7,r8):=by rw [if_pos rfl] at H;exact H
    clear H
    have H:=H1
    clear H1
    replace H:=Option.bind_eq_some_iff.mp H
    obtain ⟨⟨t332,t333⟩,A210,H⟩:=H
    replace H:(if 0 ≤ t332 then (if t332 < (t314.length:Int) then ((spec_l6Rd_pick.f kj4 s0_0 t333 6).bind fun bt336=>(if bt336.1=0 then ((spec_l6Rd_pick.f kj4 s0_0 bt336.2 5).bind fun bt338=>(some (t314,t320,t321,(rd_T39 t314 t332).f0,(rd_T39 t314 t332).f1,mx (wrap64 ((wrap64 (((rd_T39 t314 t332).f2)+bt338.1)) - 2)) 0,t325,bt338.2))) else (if bt336.1=1 then ((spec_l6Rd_pick.f kj4 s0_0 bt336.2 3).bind fun bt340=>((spec_l6Rd_pick.f kj4 s0_0 bt340.2 2).bind fun bt342=>(some (t314,t320,t321,(rd_T39 t314 t332).f0,mx (wrap64 ((wrap64 (((rd_T39 t314 t332).f1)+bt340.1)) - 1)) 0,bt342.1,t325,bt342.2)))) else (some (t314,t320,t321,(rd_T39 t314 t332).f0,(rd_T39 t314 t332).f1,(rd_T39 t314 t332).f2,t325,bt336.2))))) else (none)) else (none))=some (r1,r2,r3,r4,r5,r6,r7,r8):=H
    have A21:=Aside0.mk A210
    clear A210
    by_cases c22 : 0 ≤ t332
    ·rw [if_pos c22] at H
     have c22b0:decide (0 ≤ t332)=true:=decide_eq_true c22
     clear c22
     by_cases c23:t332 < (t314.length:Int)
     ·rw [if_pos c23] at H
      have c23b0:decide (t332 < (t314.length:Int))=true:=decide_eq_true c23
      clear c23
      replace H:=Option.bind_eq_some_iff.mp H
      obtain ⟨⟨t336,t337⟩,A240,H⟩:=H
      replace H:(if t336=0 then ((spec_l6Rd_pick.f kj4 s0_0 t337 5).bind fun bt338=>(some (t314,t320,t321,(rd_T39 t314 t332).f0,(rd_T39 t314 t332).f1,mx (wrap64 ((wrap64 (((rd_T39 t314 t332).f2)+bt338.1)) - 2)) 0,t325,bt338.2))) else (if t336=1 then ((spec_l6Rd_pick.f kj4 s0_0 t337 3).bind fun bt340=>((spec_l6Rd_pick.f kj4 s0_0 bt340.2 2).bind fun bt342=>(some (t314,t320,t321,(rd_T39 t314 t332).f0,mx (wrap64 ((wrap64 (((rd_T39 t314 t332).f1)+bt340.1)) - 1)) 0,bt342.1,t325,bt342.2)))) else (some (t314,t320,t321,(rd_T39 t314 t332).f0,(rd_T39 t314 t332).f1,(rd_T39 t314 t332).f2,t325,t337))))=some (r1,r2,r3,r4,r5,r6,r7,r8):=H
      have A24:=Aside0.mk A240
      clear A240
      by_cases c25:t336=0
      ·rw [if_pos c25] at H
       have c25b0:(t336 == 0)=true:=beq_iff_eq.mpr c25
       have c25b1:(t336 != 0)=false:=bne_eq_false_iff_eq.mpr c25
       clear c25
       replace H:=Option.bind_eq_some_iff.mp H
       obtain ⟨⟨t338,t339⟩,A260,H⟩:=H
       replace H:(some (t314,t320,t321,(rd_T39 t314 t332).f0,(rd_T39 t314 t332).f1,mx (wrap64 ((wrap64 (((rd_T39 t314 t332).f2)+t338)) - 2)) 0,t325,t339))=some (r1,r2,r3,r4,r5,r6,r7,r8):=H
       have A26:=Aside0.mk A260
       clear A260
       obtain ⟨ji27,hji27⟩:∃ j_:Int,(mx (wrap64 ((wrap64 (((rd_T39 t314 t332).f2)+t338)) - 2)) 0)=j_:=⟨_,rfl⟩
       replace H:(some (t314,t320,t321,(rd_T39 t314 t332).f0,(rd_T39 t314 t332).f1,ji27,t325,t339))=some (r1,r2,r3,r4,r5,r6,r7,r8):=by first|(rw [hji27] at H;exact H)|(simp only [hji27] at H ⊢;exact H)
       (try rw [hji27] at A21)
       (try rw [hji27] at A24)
       (try rw [hji27] at A26)
       have hji27_:(if (wrap64 ((wrap64 (((rd_T39 t314 t332).f2)+t338)) - 2)) < 0 then 0 else (wrap64 ((wrap64 (((rd_T39 t314 t332).f2)+t338)) - 2)))=ji27:=hji27
       simp only [Option.some.injEq,Prod.mk.injEq] at H
       obtain ⟨rfl,rfl,rfl,rfl,rfl,rfl,rfl,rfl⟩:=H
       obtain ⟨Ao28,co28,eo28⟩:=Kd.R_slice HO_4.out
       subst eo28
       try go_wp2_with (first|((with_reducible refine gate_callee (f:=67) rfl ?_);refine goesL_ (some 25) rfl rfl Try.func67 (by kernel_rfl) rfl #[.pointer (some ⟨g,0,none⟩),.int .i64 (t314.length:Int)] rfl (by (try simp only [map_toArray,map_cons,map_nil]);first|done|rfl|(simp only [length_drop,length_take];rfl)) ?_;(with_reducible refine (spec_l6Rd_pick.calls kj4 g s0_0 x1001_4 (t314.length:Int) t332 t333 w0 _ ?side1 ?side2 A21.out).mono ?_);(case side1=>repeat (first|(with_reducible first|exact HI0.out|apply IsS92.alloc|apply IsS92.drewN|apply IsS92.drew|apply IsS92.set_1|refine IsS92.far ?_ NB0_313.out _|refine IsS92.far ?_ NB0_329.out _)|exact HI0.out));(case side2=>repeat (first|(with_reducible first|exact HB.out|apply below_alloc|apply pw_below_drewN|apply below_drew1|refine below_set ?_ (IsS92.ge HI0.out)|refine below_set ?_ GE313.out|refine below_set ?_ GE329.out)|exact HB.out));rintro e w29 ⟨rfl,hi,hb,hk⟩;refine ⟨_,rfl,?_⟩;have n0_:=Aside0.mk (Kd.R_mono (Kd.R_keep (IsS92.apart (show IsS92 w0 _ g s0_0 x1001_4 from by repeat (first|(with_reducible first|exact HI0.out|apply IsS92.alloc|apply IsS92.drewN|apply IsS92.drew|apply IsS92.set_1|refine IsS92.far ?_ NB0_313.out _|refine IsS92.far ?_ NB0_329.out _)|exact HI0.out)) (by (with_reducible repeat (first|apply Kd.R_alloc|apply Kd.R_drewN|apply Kd.R_drew));exact HO_4.out) (by decide)) hk (fun _ h=>h.2)) (fun _ h=>h.1));have n1_:=Aside0.mk (Kd.N_mono (Kd.N_keep (Kd.N_mono (ok:=fun k_=>(((w.heap.size ≤ k_))∧(some k_ ≠ (.slice Ao28 t314.length co28:Value).ownBlock∧(k_ ≠ gb313∧(k_ ≠ gb329∧k_ ≠ g))))) (by (with_reducible repeat (first|apply Kd.N_alloc|apply Kd.N_drewN|apply Kd.N_drew));exact HO_330005.out) (fun k_ hk_=>(⟨hk_,hk_.2.2.2.2⟩:_∧k_ ≠ g))) hk (fun _ h=>h.2)) (fun _ h=>h.1));have n2_:=Aside0.mk (KeepBut.blk hk (g':=gb313) (o:=.cells #[.bool false,.bool false,.int .i64 0,.int .i64 0,.int .i64 0,.slice none 0 0] 34 (0,0)) (by (with_reducible repeat (first|refine blk_drewN ?_ _|refine blk_drew ?_|refine blk_alloc ?_ _));exact BK313.out) NB313_0.out (by simp));have n3_:=Aside0.mk (KeepBut.blk hk (g':=gb329) (o:=.cells #[.bool t320,.bool t321,.int .i64 t322,.int .i64 t323,.int .i64 t324,.slice Ao14 t325.length co14] 34 (0,0)) (by (with_reducible repeat (first|refine blk_drewN ?_ _|refine blk_drew ?_|refine blk_alloc ?_ _));exact BK329.out) NB329_0.out (by simp));have n4_:=Aside0.mk (KeepBut.trans (by repeat (first|(with_reducible first|exact HK.out|apply KeepBut.set_|apply keep_drewN|apply keep_drew|apply keep_alloc|refine keep_far ?_ GW313.out _|refine keep_far ?_ GW329.out _)|exact HK.out)) hk (.inl rfl));have n5_:=Aside0.mk (hb);have n6_:=Aside0.mk (hi);clear HO_4 HO_330005 BK313 BK329 HK HB HI0;have HO_4:=n0_;have HO_330005:=n1_;have BK313:=n2_;have BK329:=n3_;have HK:=n4_;have HB:=n5_;have HI0:=n6_;clear n0_ n1_ n2_ n3_ n4_ n5_ n6_;(try clear hb);(try clear hb2);(try clear hk);(try clear hi);have p334 : 0 ≤ (t332:Int):=of_decide_eq_true (by first|(with_reducible assumption)|assumption);have q334:t332 < (t314.length:Int):=of_decide_eq_true (by first|(with_reducible assumption)|assumption);obtain ⟨ad334,e334,hx334_0,hx334_1,hx334_2⟩:=at_T39 (Kd.R_reads' HO_4.out).2.2 t332 p334 q334;cases e334;replace p334:=eq_true p334;replace q334:=eq_true q334)|((with_reducible refine gate_dst (N:=6) rfl ?_);refine box_event ?hg (N:=6) ?hd (cs:=#[.int .i64 0,.int .i64 0,.int .i64 0]) (t:=39) ?hr ?_;(case hd=>rfl);(case hg=>rfl);(case hr=>first|(go_simp;done)|(go_simp;rfl));intro gb335 hg w30 hbox hb;have n0_:=Aside0.mk (Kd.R_below (Kd.R_elderB (by (with_reducible repeat (first|apply Kd.R_alloc|apply Kd.R_drewN|apply Kd.R_drew));exact HO_4.out) gb335 (Nat.le_of_eq hg.symm)) hb);have n1_:=Aside0.mk (Kd.N_below (Kd.N_elderB (by (with_reducible repeat (first|apply Kd.N_alloc|apply Kd.N_drewN|apply Kd.N_drew));exact HO_330005.out) gb335 (Nat.le_of_eq hg.symm)) hb);have n2_:=Aside0.mk (blk_below (g:=gb313) (o:=.cells #[.bool false,.bool false,.int .i64 0,.int .i64 0,.int .i64 0,.slice none 0 0] 34 (0,0)) (by (with_reducible repeat (first|refine blk_drewN ?_ _|refine blk_drew ?_|refine blk_alloc ?_ _));exact BK313.out) hb);have n3_:=Aside0.mk (blk_below (g:=gb329) (o:=.cells #[.bool t320,.bool t321,.int .i64 t322,.int .i64 t323,.int .i64 t324,.slice Ao14 t325.length co14] 34 (0,0)) (by (with_reducible repeat (first|refine blk_drewN ?_ _|refine blk_drew ?_|refine blk_alloc ?_ _));exact BK329.out) hb);have n4_:=Aside0.mk (IsS92.below (by repeat (first|(with_reducible first|exact HI0.out|apply IsS92.alloc|apply IsS92.drewN|apply IsS92.drew|apply IsS92.set_1|refine IsS92.far ?_ NB0_313.out _|refine IsS92.far ?_ NB0_329.out _)|exact HI0.out)) hb);have n5_:=Aside0.mk (KeepBut.trans (by repeat (first|(with_reducible first|exact HK.out|apply KeepBut.set_|apply keep_drewN|apply keep_drew|apply keep_alloc|refine keep_far ?_ GW313.out _|refine keep_far ?_ GW329.out _)|exact HK.out)) (KeepBut.of_below hb g none) (.inl rfl));have n6_:=Aside0.mk (below_step (by repeat (first|(with_reducible first|exact HB.out|apply below_alloc|apply pw_below_drewN|apply below_drew1|refine below_set ?_ (IsS92.ge HI0.out)|refine below_set ?_ GE313.out|refine below_set ?_ GE329.out)|exact HB.out)) hb);have n7_:=Aside0.mk (hbox);have n8_:=Aside0.mk ((by rw [hg];exact (keep_size (w:=w) (g:=g) (row:=none) (by repeat (first|(with_reducible first|exact HK.out|apply KeepBut.set_|apply keep_drewN|apply keep_drew|apply keep_alloc|refine keep_far ?_ GW313.out _|refine keep_far ?_ GW329.out _)|exact HK.out))):w.heap.size ≤ gb335));have n9_:=Aside0.mk ((Nat.le_trans HW0.out (by rw [hg];exact (keep_size (w:=w) (g:=g) (row:=none) (by repeat (first|(with_reducible first|exact HK.out|apply KeepBut.set_|apply keep_drewN|apply keep_drew|apply keep_alloc|refine keep_far ?_ GW313.out _|refine keep_far ?_ GW329.out _)|exact HK.out))):w.heap.size ≤ gb335):w0.heap.size ≤ gb335));have n10_:=Aside0.mk ((by rw [hg];exact Nat.ne_of_lt (blk_lt (g:=gb313) (o:=.cells #[.bool false,.bool false,.int .i64 0,.int .i64 0,.int .i64 0,.slice none 0 0] 34 (0,0)) (by (with_reducible repeat (first|refine blk_drewN ?_ _|refine blk_drew ?_|refine blk_alloc ?_ _));exact BK313.out)):gb313 ≠ gb335));have n11_:=Aside0.mk ((by rw [hg];exact Nat.ne_of_gt (blk_lt (g:=gb313) (o:=.cells #[.bool false,.bool false,.int .i64 0,.int .i64 0,.int .i64 0,.slice none 0 0] 34 (0,0)) (by (with_reducible repeat (first|refine blk_drewN ?_ _|refine blk_drew ?_|refine blk_alloc ?_ _));exact BK313.out)):gb335 ≠ gb313));have n12_:=Aside0.mk ((by rw [hg];exact Nat.ne_of_lt (blk_lt (g:=gb329) (o:=.cells #[.bool t320,.bool t321,.int .i64 t322,.int .i64 t323,.int .i64 t324,.slice Ao14 t325.length co14] 34 (0,0)) (by (with_reducible repeat (first|refine blk_drewN ?_ _|refine blk_drew ?_|refine blk_alloc ?_ _));exact BK329.out)):gb329 ≠ gb335));have n13_:=Aside0.mk ((by rw [hg];exact Nat.ne_of_gt (blk_lt (g:=gb329) (o:=.cells #[.bool t320,.bool t321,.int .i64 t322,.int .i64 t323,.int .i64 t324,.slice Ao14 t325.length co14] 34 (0,0)) (by (with_reducible repeat (first|refine blk_drewN ?_ _|refine blk_drew ?_|refine blk_alloc ?_ _));exact BK329.out)):gb335 ≠ gb329));have n14_:=Aside0.mk ((by rw [hg];exact Nat.ne_of_lt (IsS92.lt (show IsS92 w0 _ g s0_0 t333 from by repeat (first|(with_reducible first|exact HI0.out|apply IsS92.alloc|apply IsS92.drewN|apply IsS92.drew|apply IsS92.set_1|refine IsS92.far ?_ NB0_313.out _|refine IsS92.far ?_ NB0_329.out _)|exact HI0.out))):g ≠ gb335));have n15_:=Aside0.mk ((by rw [hg];exact Nat.ne_of_gt (IsS92.lt (show IsS92 w0 _ g s0_0 t333 from by repeat (first|(with_reducible first|exact HI0.out|apply IsS92.alloc|apply IsS92.drewN|apply IsS92.drew|apply IsS92.set_1|refine IsS92.far ?_ NB0_313.out _|refine IsS92.far ?_ NB0_329.out _)|exact HI0.out))):gb335 ≠ g));clear HO_4 HO_330005 BK313 BK329 HI0 HK HB;have HO_4:=n0_;have HO_330005:=n1_;have BK313:=n2_;have BK329:=n3_;have HI0:=n4_;have HK:=n5_;have HB:=n6_;have BK335:=n7_;have GW335:=n8_;have GE335:=n9_;have NB313_335:=n10_;have NB335_313:=n11_;have NB329_335:=n12_;have NB335_329:=n13_;have NB0_335:=n14_;have NB335_0:=n15_;clear n0_ n1_ n2_ n3_ n4_ n5_ n6_ n7_ n8_ n9_ n10_ n11_ n12_ n13_ n14_ n15_;clear hb hbox hg;have hnb31:=NB335_313.out;have hnc31:=NB313_335.out;have hnb32:=NB335_329.out;have hnc32:=NB329_335.out;have hnb33:=NB335_0.out;have hnc33:=NB0_335.out;have hcz34_0:w30.cell? ⟨gb335,0,none⟩=some (.int .i64 0):=(blk_cell BK335.out 0).trans rfl;have hcz34_1:w30.cell? ⟨gb335,1,none⟩=some (.int .i64 0):=(blk_cell BK335.out 1).trans rfl;have hcz34_2:w30.cell? ⟨gb335,2,none⟩=some (.int .i64 0):=(blk_cell BK335.out 2).trans rfl;have hfz34_0:=blk_frozen BK335.out 0;have hfz34_1:=blk_frozen BK335.out 1;have hfz34_2:=blk_frozen BK335.out 2;have hnb35:=NB329_313.out;have hnc35:=NB313_329.out;have hnb36:=NB329_0.out;have hnc36:=NB0_329.out;have hcz37_0:w30.cell? ⟨gb329,0,none⟩=some (.bool t320):=(blk_cell BK329.out 0).trans rfl;have hcz37_1:w30.cell? ⟨gb329,1,none⟩=some (.bool t321):=(blk_cell BK329.out 1).trans rfl;have hcz37_2:w30.cell? ⟨gb329,2,none⟩=some (.int .i64 t322):=(blk_cell BK329.out 2).trans rfl;have hcz37_3:w30.cell? ⟨gb329,3,none⟩=some (.int .i64 t323):=(blk_cell BK329.out 3).trans rfl;have hcz37_4:w30.cell? ⟨gb329,4,none⟩=some (.int .i64 t324):=(blk_cell BK329.out 4).trans rfl;have hcz37_5:w30.cell? ⟨gb329,5,none⟩=some (.slice Ao14 t325.length co14):=(blk_cell BK329.out 5).trans rfl;have hfz37_0:=blk_frozen BK329.out 0;have hfz37_1:=blk_frozen BK329.out 1;have hfz37_2:=blk_frozen BK329.out 2;have hfz37_3:=blk_frozen BK329.out 3;have hfz37_4:=blk_frozen BK329.out 4;have hfz37_5:=blk_frozen BK329.out 5)|((with_reducible refine gate_callee (f:=67) rfl ?_);refine goesL_ (some 38) rfl rfl Try.func67 (by kernel_rfl) rfl #[.pointer (some ⟨g,0,none⟩),.int .i64 6] rfl (by (try simp only [map_toArray,map_cons,map_nil]);first|done|rfl|(simp only [length_drop,length_take];rfl)) ?_;(with_reducible refine (spec_l6Rd_pick.calls kj4 g s0_0 t333 6 t336 t337 w0 _ ?side1 ?side2 A24.out).mono ?_);(case side1=>repeat (first|(with_reducible first|exact HI0.out|apply IsS92.alloc|apply IsS92.drewN|apply IsS92.drew|apply IsS92.set_1|refine IsS92.far ?_ NB0_313.out _|refine IsS92.far ?_ NB0_329.out _|refine IsS92.far ?_ NB0_335.out _)|exact HI0.out));(case side2=>repeat (first|(with_reducible first|exact HB.out|apply below_alloc|apply pw_below_drewN|apply below_drew1|refine below_set ?_ (IsS92.ge HI0.out)|refine below_set ?_ GE313.out|refine below_set ?_ GE329.out|refine below_set ?_ GE335.out)|exact HB.out));rintro e w38 ⟨rfl,hi,hb,hk⟩;refine ⟨_,rfl,?_⟩;have n0_:=Aside0.mk (Kd.R_mono (Kd.R_keep (IsS92.apart (show IsS92 w0 _ g s0_0 t333 from by repeat (first|(with_reducible first|exact HI0.out|apply IsS92.alloc|apply IsS92.drewN|apply IsS92.drew|apply IsS92.set_1|refine IsS92.far ?_ NB0_313.out _|refine IsS92.far ?_ NB0_329.out _|refine IsS92.far ?_ NB0_335.out _)|exact HI0.out)) (by (with_reducible repeat (first|apply Kd.R_alloc|apply Kd.R_drewN|apply Kd.R_drew));exact (Kd.R_mono (Kd.R_mono (Kd.R_far (p:=⟨gb329,4,none⟩) (Kd.R_far (p:=⟨gb329,3,none⟩) (Kd.R_far (p:=⟨gb329,2,none⟩) (Kd.R_far (p:=⟨gb335,2,none⟩) (Kd.R_far (p:=⟨gb335,1,none⟩) (Kd.R_far (p:=⟨gb335,0,none⟩) (Kd.R_types (Kd.R_mono HO_4.out (fun k_ hk=>(⟨hk,hk.2⟩:_∧k_ ≠ gb335))) BK329.out (by decide)) (fun _ hk=>hk.1.2) (.int .i64 ((rd_T39 t314 t332).f0))) (fun _ hk=>hk.1.2) (.int .i64 ((rd_T39 t314 t332).f1))) (fun _ hk=>hk.1.2) (.int .i64 ((rd_T39 t314 t332).f2))) (fun _ hk=>hk.2) (.int .i64 ((rd_T39 t314 t332).f0))) (fun _ hk=>hk.2) (.int .i64 ((rd_T39 t314 t332).f1))) (fun _ hk=>hk.2) (.int .i64 ((rd_T39 t314 t332).f2))) (fun _ h_=>h_.1)) (fun _ h_=>h_.1))) (by decide)) hk (fun _ h=>h.2)) (fun _ h=>h.1));have n1_:=Aside0.mk (Kd.N_mono (Kd.N_keep (Kd.N_mono (ok:=fun k_=>((((w.heap.size ≤ k_))∧(some k_ ≠ (.slice (some ad334) t314.length co28:Value).ownBlock∧(k_ ≠ gb313∧(k_ ≠ gb329∧k_ ≠ g))))∧k_ ≠ gb335)) (by (with_reducible repeat (first|apply Kd.N_alloc|apply Kd.N_drewN|apply Kd.N_drew));exact (Kd.N_mono (Kd.N_mono (Kd.N_far (p:=⟨gb329,4,none⟩) (Kd.N_far (p:=⟨gb329,3,none⟩) (Kd.N_far (p:=⟨gb329,2,none⟩) (Kd.N_far (p:=⟨gb335,2,none⟩) (Kd.N_far (p:=⟨gb335,1,none⟩) (Kd.N_far (p:=⟨gb335,0,none⟩) (Kd.N_mono (Kd.N_mono HO_330005.out (fun k_ hk=>(⟨hk,hk.2⟩:_∧k_ ≠ gb335))) (fun k_ hk=>(⟨hk,hk.1.1.2.2.2.1⟩:_∧k_ ≠ gb329))) (fun _ hk=>hk.1.2) (.int .i64 ((rd_T39 t314 t332).f0))) (fun _ hk=>hk.1.2) (.int .i64 ((rd_T39 t314 t332).f1))) (fun _ hk=>hk.1.2) (.int .i64 ((rd_T39 t314 t332).f2))) (fun _ hk=>hk.2) (.int .i64 ((rd_T39 t314 t332).f0))) (fun _ hk=>hk.2) (.int .i64 ((rd_T39 t314 t332).f1))) (fun _ hk=>hk.2) (.int .i64 ((rd_T39 t314 t332).f2))) (fun _ h_=>h_.1)) (fun _ h_=>h_.1))) (fun k_ hk_=>(⟨hk_,hk_.1.2.2.2.2⟩:_∧k_ ≠ g))) hk (fun _ h=>h.2)) (fun _ h=>h.1));have n2_:=Aside0.mk (KeepBut.blk hk (g':=gb313) (o:=.cells #[.bool false,.bool false,.int .i64 0,.int .i64 0,.int .i64 0,.slice none 0 0] 34 (0,0)) (by (with_reducible repeat (first|refine blk_drewN ?_ _|refine blk_drew ?_|refine blk_alloc ?_ _));refine blk_far ?_ NB313_329.out _;(with_reducible repeat (first|refine blk_drewN ?_ _|refine blk_drew ?_|refine blk_alloc ?_ _));refine blk_far ?_ NB313_329.out _;(with_reducible repeat (first|refine blk_drewN ?_ _|refine blk_drew ?_|refine blk_alloc ?_ _));refine blk_far ?_ NB313_329.out _;(with_reducible repeat (first|refine blk_drewN ?_ _|refine blk_drew ?_|refine blk_alloc ?_ _));refine blk_far ?_ NB313_335.out _;(with_reducible repeat (first|refine blk_drewN ?_ _|refine blk_drew ?_|refine blk_alloc ?_ _));refine blk_far ?_ NB313_335.out _;(with_reducible repeat (first|refine blk_drewN ?_ _|refine blk_drew ?_|refine blk_alloc ?_ _));refine blk_far ?_ NB313_335.out _;(with_reducible repeat (first|refine blk_drewN ?_ _|refine blk_drew ?_|refine blk_alloc ?_ _));exact BK313.out) NB313_0.out (by simp));have n3_:=Aside0.mk (KeepBut.blk hk (g':=gb329) (o:=.cells #[.bool t320,.bool t321,.int .i64 ((rd_T39 t314 t332).f0),.int .i64 ((rd_T39 t314 t332).f1),.int .i64 ((rd_T39 t314 t332).f2),.slice Ao14 t325.length co14] 34 (0,0)) (by (with_reducible repeat (first|refine blk_drewN ?_ _|refine blk_drew ?_|refine blk_alloc ?_ _));refine blk_put (cs:=#[.bool t320,.bool t321,.int .i64 ((rd_T39 t314 t332).f0),.int .i64 ((rd_T39 t314 t332).f1),.int .i64 t324,.slice Ao14 t325.length co14]) ?_ 4 _ rfl;(with_reducible repeat (first|refine blk_drewN ?_ _|refine blk_drew ?_|refine blk_alloc ?_ _));refine blk_put (cs:=#[.bool t320,.bool t321,.int .i64 ((rd_T39 t314 t332).f0),.int .i64 t323,.int .i64 t324,.slice Ao14 t325.length co14]) ?_ 3 _ rfl;(with_reducible repeat (first|refine blk_drewN ?_ _|refine blk_drew ?_|refine blk_alloc ?_ _));refine blk_put (cs:=#[.bool t320,.bool t321,.int .i64 t322,.int .i64 t323,.int .i64 t324,.slice Ao14 t325.length co14]) ?_ 2 _ rfl;(with_reducible repeat (first|refine blk_drewN ?_ _|refine blk_drew ?_|refine blk_alloc ?_ _));refine blk_far ?_ NB329_335.out _;(with_reducible repeat (first|refine blk_drewN ?_ _|refine blk_drew ?_|refine blk_alloc ?_ _));refine blk_far ?_ NB329_335.out _;(with_reducible repeat (first|refine blk_drewN ?_ _|refine blk_drew ?_|refine blk_alloc ?_ _));refine blk_far ?_ NB329_335.out _;(with_reducible repeat (first|refine blk_drewN ?_ _|refine blk_drew ?_|refine blk_alloc ?_ _));exact BK329.out) NB329_0.out (by simp));have n4_:=Aside0.mk (KeepBut.blk hk (g':=gb335) (o:=.cells #[.int .i64 ((rd_T39 t314 t332).f0),.int .i64 ((rd_T39 t314 t332).f1),.int .i64 ((rd_T39 t314 t332).f2)] 39 (0,0)) (by (with_reducible repeat (first|refine blk_drewN ?_ _|refine blk_drew ?_|refine blk_alloc ?_ _));refine blk_far ?_ NB335_329.out _;(with_reducible repeat (first|refine blk_drewN ?_ _|refine blk_drew ?_|refine blk_alloc ?_ _));refine blk_far ?_ NB335_329.out _;(with_reducible repeat (first|refine blk_drewN ?_ _|refine blk_drew ?_|refine blk_alloc ?_ _));refine blk_far ?_ NB335_329.out _;(with_reducible repeat (first|refine blk_drewN ?_ _|refine blk_drew ?_|refine blk_alloc ?_ _));refine blk_put (cs:=#[.int .i64 ((rd_T39 t314 t332).f0),.int .i64 ((rd_T39 t314 t332).f1),.int .i64 0]) ?_ 2 _ rfl;(with_reducible repeat (first|refine blk_drewN ?_ _|refine blk_drew ?_|refine blk_alloc ?_ _));refine blk_put (cs:=#[.int .i64 ((rd_T39 t314 t332).f0),.int .i64 0,.int .i64 0]) ?_ 1 _ rfl;(with_reducible repeat (first|refine blk_drewN ?_ _|refine blk_drew ?_|refine blk_alloc ?_ _));refine blk_put (cs:=#[.int .i64 0,.int .i64 0,.int .i64 0]) ?_ 0 _ rfl;(with_reducible repeat (first|refine blk_drewN ?_ _|refine blk_drew ?_|refine blk_alloc ?_ _));exact BK335.out) NB335_0.out (by simp));have n5_:=Aside0.mk (KeepBut.trans (by repeat (first|(with_reducible first|exact HK.out|apply KeepBut.set_|apply keep_drewN|apply keep_drew|apply keep_alloc|refine keep_far ?_ GW313.out _|refine keep_far ?_ GW329.out _|refine keep_far ?_ GW335.out _)|exact HK.out)) hk (.inl rfl));have n6_:=Aside0.mk (hb);have n7_:=Aside0.mk (hi);clear HO_4 HO_330005 BK313 BK329 BK335 HK HB HI0;have HO_4:=n0_;have HO_330005:=n1_;have BK313:=n2_;have BK329:=n3_;have BK335:=n4_;have HK:=n5_;have HB:=n6_;have HI0:=n7_;clear n0_ n1_ n2_ n3_ n4_ n5_ n6_ n7_;(try clear hb);(try clear hb2);(try clear hk);(try clear hi)))
       have n0_:=Aside0.mk (Kd.R_drew HO_4.out)
       have n1_:=Aside0.mk (Kd.N_drew HO_330005.out)
       have n2_:=Aside0.mk (blk_drew BK313.out)
       have n3_:=Aside0.mk (blk_drew BK329.out)
       have n4_:=Aside0.mk (blk_drew BK335.out)
       have n5_:=Aside0.mk (IsS92.drew HI0.out)
       have n6_:=Aside0.mk (keep_drew HK.out)
       have n7_:=Aside0.mk (below_drew1 HB.out)
       clear HO_4
       clear HO_330005
       clear BK313
       clear BK329
       clear BK335
       clear HI0
       clear HK
       clear HB
       have HO_4:=n0_
       have HO_330005:=n1_
       have BK313:=n2_
       have BK329:=n3_
       have BK335:=n4_
       have HI0:=n5_
       have HK:=n6_
       have HB:=n7_
       clear n0_ n1_ n2_ n3_ n4_ n5_ n6_ n7_
       refine start_ (n:=9) (S:=fun w'=>w'.cell? ⟨gb335,0,none⟩=some (.int .i64 ((rd_T39 t314 t332).f0))∧w'.cell? ⟨gb335,1,none⟩=some (.int .i64 ((rd_T39 t314 t332).f1))∧w'.cell? ⟨gb335,2,none⟩=some (.int .i64 ((rd_T39 t314 t332).f2))) (ds:=[]) #[false,false,false,false,false,false,false,false,false] (by kernel_rfl) rfl rfl ⟨(blk_cell BK335.out 0).trans rfl,(blk_cell BK335.out 1).trans rfl,(blk_cell BK335.out 2).trans rfl⟩ (fun hHeld=>?_);refine with_tabW spec_l92Numbered.tab10 spec_l92Numbered.bits10 (fun HT_ HW_=>?_)
       generalize w38.drew=w39 at HO_4 HO_330005 BK313 BK329 BK335 HI0 HK HB hHeld ⊢
       refine pure_ (i:=0) (N:=some 41) (v:=?_) (a':=?_) #[true,false,false,false,false,false,false,false,false] rfl rfl (any_of HT_.out (by kernel_rfl)) (fun _ _ _ h=>h) (Or.inl ⟨by rfl,?_⟩) ?_ ?_
       rotate_left
       ·intro w'
        go_simp
        with_reducible rfl
       rotate_left
       ·simp only [Act.put,setIfInBounds_toArray,set_cons_zero,set_cons_succ,i64_w,i32_w]
        rfl
       refine pure_ (i:=2) (N:=some 43) (v:=?_) (a':=?_) #[true,false,true,false,false,false,false,false,false] rfl rfl (any_of HT_.out (by kernel_rfl)) (fun _ _ _ h=>h) (Or.inl ⟨by rfl,?_⟩) ?_ ?_
       rotate_left
       ·intro w'
        go_simp
        with_reducible rfl
       rotate_left
       ·simp only [Act.put,setIfInBounds_toArray,set_cons_zero,set_cons_succ,i64_w,i32_w]
        rfl
       refine take_ (i:=1) (N:=some 42) (v:=?_) (a':=?_) #[true,true,true,false,false,false,false,false,false] rfl rfl (take_ofW HT_.out HW_.out (by kernel_rfl)) (fun _ _ _ h=>h) (Or.inl ⟨by rfl,?_⟩) hHeld ?_ ?_
       rotate_left
       ·rintro w' ⟨s0,s1,s2⟩
        go_simp
        with_reducible rfl
       rotate_left
       ·simp only [Act.put,setIfInBounds_toArray,set_cons_zero,set_cons_succ,i64_w,i32_w]
        rfl
       refine one_ (i:=3) (N:=some 44) #[true,true,true,true,false,false,false,false,false] rfl rfl (one_of HT_.out (by kernel_rfl)) (by decide) (fun K hK=>?_)
       refine goes_ Try.func67 (by kernel_rfl) rfl #[.pointer (some ⟨g,0,none⟩),.int .i64 5] (by rfl) rfl rfl (by (try simp only [map_toArray,map_cons,map_nil]);first|done|rfl|(simp only [length_drop,length_take];rfl)) ?_
       with_reducible refine (spec_l6Rd_pick.calls kj4 g s0_0 t337 5 t338 t339 w0 _ ?side1 ?side2 A26.out).mono ?_
       (case side1=>repeat (first|(with_reducible first|exact HI0.out|apply IsS92.alloc|apply IsS92.drewN|apply IsS92.drew|apply IsS92.set_1|refine IsS92.far ?_ NB0_313.out _|refine IsS92.far ?_ NB0_329.out _|refine IsS92.far ?_ NB0_335.out _)|exact HI0.out))
       (case side2=>repeat (first|(with_reducible first|exact HB.out|apply below_alloc|apply pw_below_drewN|apply below_drew1|refine below_set ?_ (IsS92.ge HI0.out)|refine below_set ?_ GE313.out|refine below_set ?_ GE329.out|refine below_set ?_ GE335.out)|exact HB.out))
       rintro e w40 ⟨rfl,hi,hb,hk⟩
       refine ⟨_,rfl,?_⟩
       have n0_:=Aside0.mk (Kd.R_mono (Kd.R_keep (IsS92.apart (show IsS92 w0 _ g s0_0 t337 from by repeat (first|(with_reducible first|exact HI0.out|apply IsS92.alloc|apply IsS92.drewN|apply IsS92.drew|apply IsS92.set_1|refine IsS92.far ?_ NB0_313.out _|refine IsS92.far ?_ NB0_329.out _|refine IsS92.far ?_ NB0_335.out _)|exact HI0.out)) (by (with_reducible repeat (first|apply Kd.R_alloc|apply Kd.R_drewN|apply Kd.R_drew));exact HO_4.out) (by decide)) hk (fun _ h=>h.2)) (fun _ h=>h.1))
       have n1_:=Aside0.mk (Kd.N_mono (Kd.N_keep (Kd.N_mono (ok:=fun k_=>((((w.heap.size ≤ k_))∧(some k_ ≠ (.slice (some ad334) t314.length co28:Value).ownBlock∧(k_ ≠ gb313∧(k_ ≠ gb329∧k_ ≠ g))))∧k_ ≠ gb335)) (by (with_reducible repeat (first|apply Kd.N_alloc|apply Kd.N_drewN|apply Kd.N_drew));exact HO_330005.out) (fun k_ hk_=>(⟨hk_,hk_.1.2.2.2.2⟩:_∧k_ ≠ g))) hk (fun _ h=>h.2)) (fun _ h=>h.1))
       have n2_:=Aside0.mk (KeepBut.blk hk (g':=gb313) (o:=.cells #[.bool false,.bool false,.int .i64 0,.int .i64 0,.int .i64 0,.slice none 0 0] 34 (0,0)) (by (with_reducible repeat (first|refine blk_drewN ?_ _|refine blk_drew ?_|refine blk_alloc ?_ _));exact BK313.out) NB313_0.out (by simp))
       have n3_:=Aside0.mk (KeepBut.blk hk (g':=gb329) (o:=.cells #[.bool t320,.bool t321,.int .i64 ((rd_T39 t314 t332).f0),.int .i64 ((rd_T39 t314 t332).f1),.int .i64 ((rd_T39 t314 t332).f2),.slice Ao14 t325.length co14] 34 (0,0)) (by (with_reducible repeat (first|refine blk_drewN ?_ _|refine blk_drew ?_|refine blk_alloc ?_ _));exact BK329.out) NB329_0.out (by simp))
       have n4_:=Aside0.mk (KeepBut.blk hk (g':=gb335) (o:=.cells #[.int .i64 ((rd_T39 t314 t332).f0),.int .i64 ((rd_T39 t314 t332).f1),.int .i64 ((rd_T39 t314 t332).f2)] 39 (0,0)) (by (with_reducible repeat (first|refine blk_drewN ?_ _|refine blk_drew ?_|refine blk_alloc ?_ _));exact BK335.out) NB335_0.out (by simp))
       have n5_:=Aside0.mk (KeepBut.trans (by repeat (first|(with_reducible first|exact HK.out|apply KeepBut.set_|apply keep_drewN|apply keep_drew|apply keep_alloc|refine keep_far ?_ GW313.out _|refine keep_far ?_ GW329.out _|refine keep_far ?_ GW335.out _)|exact HK.out)) hk (.inl rfl))
       have n6_:=Aside0.mk (hb)
       have n7_:=Aside0.mk (hi)
       clear HO_4
       clear HO_330005
       clear BK313
       clear BK329
       clear BK335
       clear HK
       clear HB
       clear HI0
       have HO_4:=n0_
       have HO_330005:=n1_
       have BK313:=n2_
       have BK329:=n3_
       have BK335:=n4_
       have HK:=n5_
       have HB:=n6_
       have HI0:=n7_
       clear n0_ n1_ n2_ n3_ n4_ n5_ n6_ n7_
       (try clear hb)
       (try clear hb2)
       (try clear hk)
       (try clear hi)
       refine hK.out _ _ ⟨(blk_cell BK335.out 0).trans rfl,(blk_cell BK335.out 1).trans rfl,(blk_cell BK335.out 2).trans rfl⟩ (fun hHeld=>?_)
       clear hK K
       refine norm_ (a':=?_) ?_ ?_
       rotate_left
       ·show Act.put _ (some 44) _ = _
        simp only [Act.put,setIfInBounds_toArray,set_cons_zero,set_cons_succ,i64_w,i32_w]
        rfl
       refine pure_ (i:=4) (N:=some 45) (v:=?_) (a':=?_) #[true,true,true,true,true,false,false,false,false] rfl rfl (any_of HT_.out (by kernel_rfl)) (fun _ _ _ h=>h) (Or.inl ⟨by rfl,?_⟩) ?_ ?_
       rotate_left
       ·intro w'
        go_simp
        with_reducible rfl
       rotate_left
       ·simp only [Act.put,setIfInBounds_toArray,set_cons_zero,set_cons_succ,i64_w,i32_w]
        rfl
       refine pure_ (i:=5) (N:=some 46) (v:=?_) (a':=?_) #[true,true,true,true,true,true,false,false,false] rfl rfl (any_of HT_.out (by kernel_rfl)) (fun _ _ _ h=>h) (Or.inl ⟨by rfl,?_⟩) ?_ ?_
       rotate_left
       ·intro w'
        go_simp
        with_reducible rfl
       rotate_left
       ·simp only [Act.put,setIfInBounds_toArray,set_cons_zero,set_cons_succ,i64_w,i32_w]
        rfl
       refine pure_ (i:=6) (N:=some 47) (v:=?_) (a':=?_) #[true,true,true,true,true,true,true,false,false] rfl rfl (any_of HT_.out (by kernel_rfl)) (fun _ _ _ h=>h) (Or.inl ⟨by rfl,?_⟩) ?_ ?_
       rotate_left
       ·intro w'
        go_simp
        with_reducible rfl
       rotate_left
       ·simp only [Act.put,setIfInBounds_toArray,set_cons_zero,set_cons_succ,i64_w,i32_w]
        rfl
       refine pure_ (i:=7) (N:=some 48) (v:=?_) (a':=?_) #[true,true,true,true,true,true,true,true,false] rfl rfl (any_of HT_.out (by kernel_rfl)) (fun _ _ _ h=>h) (Or.inl ⟨by rfl,?_⟩) ?_ ?_
       rotate_left
       ·intro w'
        go_simp
        with_reducible rfl
       rotate_left
       ·simp only [Act.put,setIfInBounds_toArray,set_cons_zero,set_cons_succ,i64_w,i32_w]
        rfl
       refine one_ (i:=8) (N:=none) #[true,true,true,true,true,true,true,true,true] rfl rfl (one_of HT_.out (by kernel_rfl)) (by decide) (fun K hK=>?_)
       have hs41:w40.cell? ⟨gb329,4,none⟩=some (.int .i64 ((rd_T39 t314 t332).f2)):=(blk_cell BK329.out 4).trans rfl
       have hfs41:=blk_frozen BK329.out 4
       have hns41_0:=NB313_329.out
       have hns41_2:=NB335_329.out
       have hms41_0:=NB329_313.out
       have hms41_2:=NB329_335.out
       refine skip_ (w1:=?_) (by rfl) rfl ?_ ?_
       rotate_left
       ·go_simp
        rfl
       refine hK.out _ _ ⟨((cell_far (p:=⟨gb329,_,none⟩) NB335_329.out _).trans (hHeld.1)),((cell_far (p:=⟨gb329,_,none⟩) NB335_329.out _).trans (hHeld.2.1)),((cell_far (p:=⟨gb329,_,none⟩) NB335_329.out _).trans (hHeld.2.2))⟩ (fun hHeld=>?_)
       clear hK K
       refine done_ (done_of HT_.out (by kernel_rfl)) ?_
       try go_wp2
       have n0_:Aside0 (Kd.R k39 39 (w40.setCell ⟨gb329,4,none⟩ (.int .i64 ji27)) w.heap.size (fun k_=>(w.heap.size ≤ k_)∧k_ ≠ gb335) (.slice (some ad334) t314.length co28) t314):=⟨by (with_reducible repeat (first|apply Kd.R_alloc|apply Kd.R_drewN|apply Kd.R_drew));exact Kd.R_mono (Kd.R_far (p:=⟨gb329,4,none⟩) (Kd.R_types HO_4.out BK329.out (by decide)) (fun _ hk=>hk.2) (.int .i64 ji27)) (fun _ hk=>⟨hk.1.1,hk.1.2⟩)⟩
       have n1_:Aside0 (Kd.N k79 79 (w40.setCell ⟨gb329,4,none⟩ (.int .i64 ji27)) w.heap.size (fun k_=>(w.heap.size ≤ k_)∧some k_ ≠ (.slice (some ad334) t314.length co28:Value).ownBlock∧k_ ≠ gb313∧k_ ≠ gb329∧k_ ≠ g∧k_ ≠ gb335) (.slice Ao14 t325.length co14) t325):=⟨by (with_reducible repeat (first|apply Kd.N_alloc|apply Kd.N_drewN|apply Kd.N_drew));exact Kd.N_mono (Kd.N_far (p:=⟨gb329,4,none⟩) (Kd.N_mono HO_330005.out (fun k_ hk=>(⟨hk,hk.1.2.2.2.1⟩:_∧k_ ≠ gb329))) (fun _ hk=>hk.2) (.int .i64 ji27)) (fun _ hk=>⟨hk.1.1.1,⟨hk.1.1.2.1,⟨hk.1.1.2.2.1,⟨hk.1.1.2.2.2.1,⟨hk.1.1.2.2.2.2,hk.1.2⟩⟩⟩⟩⟩)⟩
       have n2_:Aside0 ((w40.setCell ⟨gb329,4,none⟩ (.int .i64 ji27)).heap[gb313]? = some (.cells #[.bool false,.bool false,.int .i64 0,.int .i64 0,.int .i64 0,.slice none 0 0] 34 (0,0))):=⟨by (with_reducible repeat (first|refine blk_drewN ?_ _|refine blk_drew ?_|refine blk_alloc ?_ _));refine blk_far ?_ NB313_329.out _;(with_reducible repeat (first|refine blk_drewN ?_ _|refine blk_drew ?_|refine blk_alloc ?_ _));exact BK313.out⟩
       have n3_:Aside0 ((w40.setCell ⟨gb329,4,none⟩ (.int .i64 ji27)).heap[gb329]? = some (.cells #[.bool t320,.bool t321,.int .i64 ((rd_T39 t314 t332).f0),.int .i64 ((rd_T39 t314 t332).f1),.int .i64 ji27,.slice Ao14 t325.length co14] 34 (0,0))):=⟨by (with_reducible repeat (first|refine blk_drewN ?_ _|refine blk_drew ?_|refine blk_alloc ?_ _));refine blk_put (cs:=#[.bool t320,.bool t321,.int .i64 ((rd_T39 t314 t332).f0),.int .i64 ((rd_T39 t314 t332).f1),.int .i64 ((rd_T39 t314 t332).f2),.slice Ao14 t325.length co14]) ?_ 4 _ rfl;(with_reducible repeat (first|refine blk_drewN ?_ _|refine blk_drew ?_|refine blk_alloc ?_ _));exact BK329.out⟩
       have n4_:Aside0 ((w40.setCell ⟨gb329,4,none⟩ (.int .i64 ji27)).heap[gb335]? = some (.cells #[.int .i64 ((rd_T39 t314 t332).f0),.int .i64 ((rd_T39 t314 t332).f1),.int .i64 ((rd_T39 t314 t332).f2)] 39 (0,0))):=⟨by (with_reducible repeat (first|refine blk_drewN ?_ _|refine blk_drew ?_|refine blk_alloc ?_ _));refine blk_far ?_ NB335_329.out _;(with_reducible repeat (first|refine blk_drewN ?_ _|refine blk_drew ?_|refine blk_alloc ?_ _));exact BK335.out⟩
       have n5_:Aside0 (IsS92 w0 (w40.setCell ⟨gb329,4,none⟩ (.int .i64 ji27)) g s0_0 t339):=⟨by repeat (first|(with_reducible first|exact HI0.out|apply IsS92.alloc|apply IsS92.drewN|apply IsS92.drew|apply IsS92.set_1|refine IsS92.far ?_ NB0_313.out _|refine IsS92.far ?_ NB0_329.out _|refine IsS92.far ?_ NB0_335.out _)|exact HI0.out)⟩
       have n6_:Aside0 (KeepBut w (w40.setCell ⟨gb329,4,none⟩ (.int .i64 ji27)) g none):=⟨by repeat (first|(with_reducible first|exact HK.out|apply KeepBut.set_|apply keep_drewN|apply keep_drew|apply keep_alloc|refine keep_far ?_ GW313.out _|refine keep_far ?_ GW329.out _|refine keep_far ?_ GW335.out _)|exact HK.out)⟩
       have n7_:Aside0 (Below w0.heap.size w0 (w40.setCell ⟨gb329,4,none⟩ (.int .i64 ji27))):=⟨by repeat (first|(with_reducible first|exact HB.out|apply below_alloc|apply pw_below_drewN|apply below_drew1|refine below_set ?_ (IsS92.ge HI0.out)|refine below_set ?_ GE313.out|refine below_set ?_ GE329.out|refine below_set ?_ GE335.out)|exact HB.out)⟩
       (try clear HO_4)
       (try clear HO_330005)
       (try clear BK313)
       (try clear BK329)
       (try clear BK335)
       (try clear HI0)
       (try clear HK)
       (try clear HB)
       generalize (w40.setCell ⟨gb329,4,none⟩ (.int .i64 ji27))=w42 at n0_ n1_ n2_ n3_ n4_ n5_ n6_ n7_ ⊢
       have HO_4:=n0_
       have HO_330005:=n1_
       have BK313:=n2_
       have BK329:=n3_
       have BK335:=n4_
       have HI0:=n5_
       have HK:=n6_
       have HB:=n7_
       clear n0_ n1_ n2_ n3_ n4_ n5_ n6_ n7_
       have n0_:=Aside0.mk (Kd.R_drew HO_4.out)
       have n1_:=Aside0.mk (Kd.N_drew HO_330005.out)
       have n2_:=Aside0.mk (blk_drew BK313.out)
       have n3_:=Aside0.mk (blk_drew BK329.out)
       have n4_:=Aside0.mk (blk_drew BK335.out)
       have n5_:=Aside0.mk (IsS92.drew HI0.out)
       have n6_:=Aside0.mk (keep_drew HK.out)
       have n7_:=Aside0.mk (below_drew1 HB.out)
       clear HO_4
       clear HO_330005
       clear BK313
       clear BK329
       clear BK335
       clear HI0
       clear HK
       clear HB
       have HO_4:=n0_
       have HO_330005:=n1_
       have BK313:=n2_
       have BK329:=n3_
       have BK335:=n4_
       have HI0:=n5_
       have HK:=n6_
       have HB:=n7_
       clear n0_ n1_ n2_ n3_ n4_ n5_ n6_ n7_
       refine start_ (n:=4) (S:=fun w'=>w'.cell? ⟨gb329,0,none⟩=some (.bool t320)∧w'.cell? ⟨gb329,1,none⟩=some (.bool t321)∧w'.cell? ⟨gb329,2,none⟩=some (.int .i64 ((rd_T39 t314 t332).f0))∧w'.cell? ⟨gb329,3,none⟩=some (.int .i64 ((rd_T39 t314 t332).f1))∧w'.cell? ⟨gb329,4,none⟩=some (.int .i64 ji27)∧w'.cell? ⟨gb329,5,none⟩=some (.slice Ao14 t325.length co14)) (ds:=[]) #[false,false,false,false] (by kernel_rfl) rfl rfl ⟨(blk_cell BK329.out 0).trans rfl,(blk_cell BK329.out 1).trans rfl,(blk_cell BK329.out 2).trans rfl,(blk_cell BK329.out 3).trans rfl,(blk_cell BK329.out 4).trans rfl,(blk_cell BK329.out 5).trans rfl⟩ (fun hHeld=>?_)
       generalize w42.drew=w43 at HO_4 HO_330005 BK313 BK329 BK335 HI0 HK HB hHeld ⊢
       refine pure_ (i:=0) (N:=some 62) (v:=?_) (a':=?_) #[true,false,false,false] rfl rfl (by kernel_rfl) (fun _ _ _ h=>h) (Or.inl ⟨by rfl,?_⟩) ?_ ?_
       rotate_left
       ·intro w'
        go_simp
        with_reducible rfl
       rotate_left
       ·simp only [Act.put,setIfInBounds_toArray,set_cons_zero,set_cons_succ,i64_w,i32_w]
        rfl
       refine pure_ (i:=2) (N:=some 2) (v:=?_) (a':=?_) #[true,false,true,false] rfl rfl (by kernel_rfl) (fun _ _ _ h=>h) (Or.inl ⟨by rfl,?_⟩) ?_ ?_
       rotate_left
       ·intro w'
        go_simp
        with_reducible rfl
       rotate_left
       ·simp only [Act.put,setIfInBounds_toArray,set_cons_zero,set_cons_succ,i64_w,i32_w]
        rfl
       refine take_ (i:=1) (N:=some 63) (v:=?_) (a':=?_) #[true,true,true,false] rfl rfl (by kernel_rfl) (fun _ _ _ h=>h) (Or.inl ⟨by rfl,?_⟩) hHeld ?_ ?_
       rotate_left
       ·rintro w' ⟨s0,s1,s2,s3,s4,s5⟩
        go_simp
        with_reducible rfl
       rotate_left
       ·simp only [Act.put,setIfInBounds_toArray,set_cons_zero,set_cons_succ,i64_w,i32_w]
        rfl
       refine one_ (i:=3) (N:=none) #[true,true,true,true] rfl rfl (by kernel_rfl) (by decide) (fun K hK=>?_)
       have hs44:w43.cell? ⟨gb313,0,none⟩=some (.bool false):=(blk_cell BK313.out 0).trans rfl
       have hfs44:=blk_frozen BK313.out 0
       have hns44_1:=NB329_313.out
       have hns44_2:=NB335_313.out
       have hms44_1:=NB313_329.out
       have hms44_2:=NB313_335.out
       have hs45:w43.cell? ⟨gb313,1,none⟩=some (.bool false):=(blk_cell BK313.out 1).trans rfl
       have hfs45:=blk_frozen BK313.out 1
       have hns45_1:=NB329_313.out
       have hns45_2:=NB335_313.out
       have hms45_1:=NB313_329.out
       have hms45_2:=NB313_335.out
       have hs46:w43.cell? ⟨gb313,2,none⟩=some (.int .i64 0):=(blk_cell BK313.out 2).trans rfl
       have hfs46:=blk_frozen BK313.out 2
       have hns46_1:=NB329_313.out
       have hns46_2:=NB335_313.out
       have hms46_1:=NB313_329.out
       have hms46_2:=NB313_335.out
       have hs47:w43.cell? ⟨gb313,3,none⟩=some (.int .i64 0):=(blk_cell BK313.out 3).trans rfl
       have hfs47:=blk_frozen BK313.out 3
       have hns47_1:=NB329_313.out
       have hns47_2:=NB335_313.out
       have hms47_1:=NB313_329.out
       have hms47_2:=NB313_335.out
       have hs48:w43.cell? ⟨gb313,4,none⟩=some (.int .i64 0):=(blk_cell BK313.out 4).trans rfl
       have hfs48:=blk_frozen BK313.out 4
       have hns48_1:=NB329_313.out
       have hns48_2:=NB335_313.out
       have hms48_1:=NB313_329.out
       have hms48_2:=NB313_335.out
       have hs49:w43.cell? ⟨gb313,5,none⟩=some (.slice none 0 0):=(blk_cell BK313.out 5).trans rfl
       have hfs49:=blk_frozen BK313.out 5
       have hns49_1:=NB329_313.out
       have hns49_2:=NB335_313.out
       have hms49_1:=NB313_329.out
       have hms49_2:=NB313_335.out
       refine skip_ (w1:=?_) (by rfl) rfl ?_ ?_
       rotate_left
       ·go_simp
        rfl
       refine hK.out _ _ ⟨((cell_far (p:=⟨gb313,_,none⟩) NB329_313.out _).trans (((cell_far (p:=⟨gb313,_,none⟩) NB329_313.out _).trans (((cell_far (p:=⟨gb313,_,none⟩) NB329_313.out _).trans (((cell_far (p:=⟨gb313,_,none⟩) NB329_313.out _).trans (((cell_far (p:=⟨gb313,_,none⟩) NB329_313.out _).trans (((cell_far (p:=⟨gb313,_,none⟩) NB329_313.out _).trans (hHeld.1)))))))))))),((cell_far (p:=⟨gb313,_,none⟩) NB329_313.out _).trans (((cell_far (p:=⟨gb313,_,none⟩) NB329_313.out _).trans (((cell_far (p:=⟨gb313,_,none⟩) NB329_313.out _).trans (((cell_far (p:=⟨gb313,_,none⟩) NB329_313.out _).trans (((cell_far (p:=⟨gb313,_,none⟩) NB329_313.out _).trans (((cell_far (p:=⟨gb313,_,none⟩) NB329_313.out _).trans (hHeld.2.1)))))))))))),((cell_far (p:=⟨gb313,_,none⟩) NB329_313.out _).trans (((cell_far (p:=⟨gb313,_,none⟩) NB329_313.out _).trans (((cell_far (p:=⟨gb313,_,none⟩) NB329_313.out _).trans (((cell_far (p:=⟨gb313,_,none⟩) NB329_313.out _).trans (((cell_far (p:=⟨gb313,_,none⟩) NB329_313.out _).trans (((cell_far (p:=⟨gb313,_,none⟩) NB329_313.out _).trans (hHeld.2.2.1)))))))))))),((cell_far (p:=⟨gb313,_,none⟩) NB329_313.out _).trans (((cell_far (p:=⟨gb313,_,none⟩) NB329_313.out _).trans (((cell_far (p:=⟨gb313,_,none⟩) NB329_313.out _).trans (((cell_far (p:=⟨gb313,_,none⟩) NB329_313.out _).trans (((cell_far (p:=⟨gb313,_,none⟩) NB329_313.out _).trans (((cell_far (p:=⟨gb313,_,none⟩) NB329_313.out _).trans (hHeld.2.2.2.1)))))))))))),((cell_far (p:=⟨gb313,_,none⟩) NB329_313.out _).trans (((cell_far (p:=⟨gb313,_,none⟩) NB329_313.out _).trans (((cell_far (p:=⟨gb313,_,none⟩) NB329_313.out _).trans (((cell_far (p:=⟨gb313,_,none⟩) NB329_313.out _).trans (((cell_far (p:=⟨gb313,_,none⟩) NB329_313.out _).trans (((cell_far (p:=⟨gb313,_,none⟩) NB329_313.out _).trans (hHeld.2.2.2.2.1)))))))))))),((cell_far (p:=⟨gb313,_,none⟩) NB329_313.out _).trans (((cell_far (p:=⟨gb313,_,none⟩) NB329_313.out _).trans (((cell_far (p:=⟨gb313,_,none⟩) NB329_313.out _).trans (((cell_far (p:=⟨gb313,_,none⟩) NB329_313.out _).trans (((cell_far (p:=⟨gb313,_,none⟩) NB329_313.out _).trans (((cell_far (p:=⟨gb313,_,none⟩) NB329_313.out _).trans (hHeld.2.2.2.2.2))))))))))))⟩ (fun hHeld=>?_)
       clear hK K
       refine done_ (by kernel_rfl) ?_
       try go_wp2
       refine bodyPost_ret (results_tc rfl _ _ gb313 34 #[.bool t320,.bool t321,.int .i64 ((rd_T39 t314 t332).f0),.int .i64 ((rd_T39 t314 t332).f1),.int .i64 ji27,.slice Ao14 t325.length co14] (0,0) _ rfl (by (with_reducible repeat (first|refine blk_drewN ?_ _|refine blk_drew ?_|refine blk_alloc ?_ _));refine blk_put (cs:=#[.bool t320,.bool t321,.int .i64 ((rd_T39 t314 t332).f0),.int .i64 ((rd_T39 t314 t332).f1),.int .i64 ji27,.slice none 0 0]) ?_ 5 _ rfl;(with_reducible repeat (first|refine blk_drewN ?_ _|refine blk_drew ?_|refine blk_alloc ?_ _));refine blk_put (cs:=#[.bool t320,.bool t321,.int .i64 ((rd_T39 t314 t332).f0),.int .i64 ((rd_T39 t314 t332).f1),.int .i64 0,.slice none 0 0]) ?_ 4 _ rfl;(with_reducible repeat (first|refine blk_drewN ?_ _|refine blk_drew ?_|refine blk_alloc ?_ _));refine blk_put (cs:=#[.bool t320,.bool t321,.int .i64 ((rd_T39 t314 t332).f0),.int .i64 0,.int .i64 0,.slice none 0 0]) ?_ 3 _ rfl;(with_reducible repeat (first|refine blk_drewN ?_ _|refine blk_drew ?_|refine blk_alloc ?_ _));refine blk_put (cs:=#[.bool t320,.bool t321,.int .i64 0,.int .i64 0,.int .i64 0,.slice none 0 0]) ?_ 2 _ rfl;(with_reducible repeat (first|refine blk_drewN ?_ _|refine blk_drew ?_|refine blk_alloc ?_ _));refine blk_put (cs:=#[.bool t320,.bool false,.int .i64 0,.int .i64 0,.int .i64 0,.slice none 0 0]) ?_ 1 _ rfl;(with_reducible repeat (first|refine blk_drewN ?_ _|refine blk_drew ?_|refine blk_alloc ?_ _));refine blk_put (cs:=#[.bool false,.bool false,.int .i64 0,.int .i64 0,.int .i64 0,.slice none 0 0]) ?_ 0 _ rfl;(with_reducible repeat (first|refine blk_drewN ?_ _|refine blk_drew ?_|refine blk_alloc ?_ _));exact BK313.out) Try.underlying34 rfl (by kernel_rfl)) rfl ?_
       exact ⟨_,_,by first|rfl|(simp [errW_none,errW_some] <;> rfl)|(simp only [← hji27];first|rfl|(simp [errW_none,errW_some] <;> rfl))|(simp [*,errW_none,errW_some] <;> rfl),by (with_reducible repeat (first|apply Kd.R_alloc|apply Kd.R_drewN|apply Kd.R_drew));exact Kd.R_mono (Kd.R_far (p:=⟨gb313,5,none⟩) (Kd.R_far (p:=⟨gb313,4,none⟩) (Kd.R_far (p:=⟨gb313,3,none⟩) (Kd.R_far (p:=⟨gb313,2,none⟩) (Kd.R_far (p:=⟨gb313,1,none⟩) (Kd.R_far (p:=⟨gb313,0,none⟩) (Kd.R_types HO_4.out BK313.out (by decide)) (fun _ hk=>hk.2) (.bool t320)) (fun _ hk=>hk.2) (.bool t321)) (fun _ hk=>hk.2) (.int .i64 ((rd_T39 t314 t332).f0))) (fun _ hk=>hk.2) (.int .i64 ((rd_T39 t314 t332).f1))) (fun _ hk=>hk.2) (.int .i64 ji27)) (fun _ hk=>hk.2) (.slice Ao14 t325.length co14)) (fun _ hk=>hk.1.1),by (with_reducible repeat (first|apply Kd.N_alloc|apply Kd.N_drewN|apply Kd.N_drew));exact Kd.N_mono (Kd.N_far (p:=⟨gb313,5,none⟩) (Kd.N_far (p:=⟨gb313,4,none⟩) (Kd.N_far (p:=⟨gb313,3,none⟩) (Kd.N_far (p:=⟨gb313,2,none⟩) (Kd.N_far (p:=⟨gb313,1,none⟩) (Kd.N_far (p:=⟨gb313,0,none⟩) (Kd.N_mono HO_330005.out (fun k_ hk=>(⟨hk,hk.2.2.1⟩:_∧k_ ≠ gb313))) (fun _ hk=>hk.2) (.bool t320)) (fun _ hk=>hk.2) (.bool t321)) (fun _ hk=>hk.2) (.int .i64 ((rd_T39 t314 t332).f0))) (fun _ hk=>hk.2) (.int .i64 ((rd_T39 t314 t332).f1))) (fun _ hk=>hk.2) (.int .i64 ji27)) (fun _ hk=>hk.2) (.slice Ao14 t325.length co14)) (fun _ hk=>⟨hk.1.1,hk.1.2.1⟩),by repeat (first|(with_reducible first|exact HI0.out|apply IsS92.alloc|apply IsS92.drewN|apply IsS92.drew|apply IsS92.set_1|refine IsS92.far ?_ NB0_313.out _|refine IsS92.far ?_ NB0_329.out _|refine IsS92.far ?_ NB0_335.out _)|exact HI0.out),by repeat (first|(with_reducible first|exact HB.out|apply below_alloc|apply pw_below_drewN|apply below_drew1|refine below_set ?_ (IsS92.ge HI0.out)|refine below_set ?_ GE313.out|refine below_set ?_ GE329.out|refine below_set ?_ GE335.out)|exact HB.out),by repeat (first|(with_reducible first|exact HK.out|apply KeepBut.set_|apply keep_drewN|apply keep_drew|apply keep_alloc|refine keep_far ?_ GW313.out _|refine keep_far ?_ GW329.out _|refine keep_far ?_ GW335.out _)|exact HK.out)⟩
      ·rw [if_neg c25] at H
       have c25b0:(t336 == 0)=false:=beq_eq_false_iff_ne.mpr c25
       have c25b1:(t336 != 0)=true:=bne_iff_ne.mpr c25
       by_cases c50:t336=1
       ·rw [if_pos c50] at H
        have c50b0:(t336 == 1)=true:=beq_iff_eq.mpr c50
        have c50b1:(t336 != 1)=false:=bne_eq_false_iff_eq.mpr c50
        clear c50
        replace H:=Option.bind_eq_some_iff.mp H
        obtain ⟨⟨t340,t341⟩,A510,H⟩:=H
        replace H:((spec_l6Rd_pick.f kj4 s0_0 t341 2).bind fun bt342=>(some (t314,t320,t321,(rd_T39 t314 t332).f0,mx (wrap64 ((wrap64 (((rd_T39 t314 t332).f1)+t340)) - 1)) 0,bt342.1,t325,bt342.2)))=some (r1,r2,r3,r4,r5,r6,r7,r8):=H
        have A51:=Aside0.mk A510
        clear A510
        obtain ⟨ji52,hji52⟩:∃ j_:Int,(mx (wrap64 ((wrap64 (((rd_T39 t314 t332).f1)+t340)) - 1)) 0)=j_:=⟨_,rfl⟩
        replace H:((spec_l6Rd_pick.f kj4 s0_0 t341 2).bind fun bt342=>(some (t314,t320,t321,(rd_T39 t314 t332).f0,ji52,bt342.1,t325,bt342.2)))=some (r1,r2,r3,r4,r5,r6,r7,r8):=by first|(rw [hji52] at H;exact H)|(simp only [hji52] at H ⊢;exact H)
        (try rw [hji52] at A21)
        (try rw [hji52] at A24)
        (try rw [hji52] at A51)
        have hji52_:(if (wrap64 ((wrap64 (((rd_T39 t314 t332).f1)+t340)) - 1)) < 0 then 0 else (wrap64 ((wrap64 (((rd_T39 t314 t332).f1)+t340)) - 1)))=ji52:=hji52
        replace H:=Option.bind_eq_some_iff.mp H
        obtain ⟨⟨t342,t343⟩,A530,H⟩:=H
        replace H:(some (t314,t320,t321,(rd_T39 t314 t332).f0,ji52,t342,t325,t343))=some (r1,r2,r3,r4,r5,r6,r7,r8):=H
        have A53:=Aside0.mk A530
        clear A530
        simp only [Option.some.injEq,Prod.mk.injEq] at H
        obtain ⟨rfl,rfl,rfl,rfl,rfl,rfl,rfl,rfl⟩:=H
        obtain ⟨Ao54,co54,eo54⟩:=Kd.R_slice HO_4.out
        subst eo54
        try go_wp2_with (first|((with_reducible refine gate_callee (f:=67) rfl ?_);refine goesL_ (some 25) rfl rfl Try.func67 (by kernel_rfl) rfl #[.pointer (some ⟨g,0,none⟩),.int .i64 (t314.length:Int)] rfl (by (try simp only [map_toArray,map_cons,map_nil]);first|done|rfl|(simp only [length_drop,length_take];rfl)) ?_;(with_reducible refine (spec_l6Rd_pick.calls kj4 g s0_0 x1001_4 (t314.length:Int) t332 t333 w0 _ ?side1 ?side2 A21.out).mono ?_);(case side1=>repeat (first|(with_reducible first|exact HI0.out|apply IsS92.alloc|apply IsS92.drewN|apply IsS92.drew|apply IsS92.set_1|refine IsS92.far ?_ NB0_313.out _|refine IsS92.far ?_ NB0_329.out _)|exact HI0.out));(case side2=>repeat (first|(with_reducible first|exact HB.out|apply below_alloc|apply pw_below_drewN|apply below_drew1|refine below_set ?_ (IsS92.ge HI0.out)|refine below_set ?_ GE313.out|refine below_set ?_ GE329.out)|exact HB.out));rintro e w55 ⟨rfl,hi,hb,hk⟩;refine ⟨_,rfl,?_⟩;have n0_:=Aside0.mk (Kd.R_mono (Kd.R_keep (IsS92.apart (show IsS92 w0 _ g s0_0 x1001_4 from by repeat (first|(with_reducible first|exact HI0.out|apply IsS92.alloc|apply IsS92.drewN|apply IsS92.drew|apply IsS92.set_1|refine IsS92.far ?_ NB0_313.out _|refine IsS92.far ?_ NB0_329.out _)|exact HI0.out)) (by (with_reducible repeat (first|apply Kd.R_alloc|apply Kd.R_drewN|apply Kd.R_drew));exact HO_4.out) (by decide)) hk (fun _ h=>h.2)) (fun _ h=>h.1));have n1_:=Aside0.mk (Kd.N_mono (Kd.N_keep (Kd.N_mono (ok:=fun k_=>(((w.heap.size ≤ k_))∧(some k_ ≠ (.slice Ao54 t314.length co54:Value).ownBlock∧(k_ ≠ gb313∧(k_ ≠ gb329∧k_ ≠ g))))) (by (with_reducible repeat (first|apply Kd.N_alloc|apply Kd.N_drewN|apply Kd.N_drew));exact HO_330005.out) (fun k_ hk_=>(⟨hk_,hk_.2.2.2.2⟩:_∧k_ ≠ g))) hk (fun _ h=>h.2)) (fun _ h=>h.1));have n2_:=Aside0.mk (KeepBut.blk hk (g':=gb313) (o:=.cells #[.bool false,.bool false,.int .i64 0,.int .i64 0,.int .i64 0,.slice none 0 0] 34 (0,0)) (by (with_reducible repeat (first|refine blk_drewN ?_ _|refine blk_drew ?_|refine blk_alloc ?_ _));exact BK313.out) NB313_0.out (by simp));have n3_:=Aside0.mk (KeepBut.blk hk (g':=gb329) (o:=.cells #[.bool t320,.bool t321,.int .i64 t322,.int .i64 t323,.int .i64 t324,.slice Ao14 t325.length co14] 34 (0,0)) (by (with_reducible repeat (first|refine blk_drewN ?_ _|refine blk_drew ?_|refine blk_alloc ?_ _));exact BK329.out) NB329_0.out (by simp));have n4_:=Aside0.mk (KeepBut.trans (by repeat (first|(with_reducible first|exact HK.out|apply KeepBut.set_|apply keep_drewN|apply keep_drew|apply keep_alloc|refine keep_far ?_ GW313.out _|refine keep_far ?_ GW329.out _)|exact HK.out)) hk (.inl rfl));have n5_:=Aside0.mk (hb);have n6_:=Aside0.mk (hi);clear HO_4 HO_330005 BK313 BK329 HK HB HI0;have HO_4:=n0_;have HO_330005:=n1_;have BK313:=n2_;have BK329:=n3_;have HK:=n4_;have HB:=n5_;have HI0:=n6_;clear n0_ n1_ n2_ n3_ n4_ n5_ n6_;(try clear hb);(try clear hb2);(try clear hk);(try clear hi);have p334 : 0 ≤ (t332:Int):=of_decide_eq_true (by first|(with_reducible assumption)|assumption);have q334:t332 < (t314.length:Int):=of_decide_eq_true (by first|(with_reducible assumption)|assumption);obtain ⟨ad334,e334,hx334_0,hx334_1,hx334_2⟩:=at_T39 (Kd.R_reads' HO_4.out).2.2 t332 p334 q334;cases e334;replace p334:=eq_true p334;replace q334:=eq_true q334)|((with_reducible refine gate_dst (N:=6) rfl ?_);refine box_event ?hg (N:=6) ?hd (cs:=#[.int .i64 0,.int .i64 0,.int .i64 0]) (t:=39) ?hr ?_;(case hd=>rfl);(case hg=>rfl);(case hr=>first|(go_simp;done)|(go_simp;rfl));intro gb335 hg w56 hbox hb;have n0_:=Aside0.mk (Kd.R_below (Kd.R_elderB (by (with_reducible repeat (first|apply Kd.R_alloc|apply Kd.R_drewN|apply Kd.R_drew));exact HO_4.out) gb335 (Nat.le_of_eq hg.symm)) hb);have n1_:=Aside0.mk (Kd.N_below (Kd.N_elderB (by (with_reducible repeat (first|apply Kd.N_alloc|apply Kd.N_drewN|apply Kd.N_drew));exact HO_330005.out) gb335 (Nat.le_of_eq hg.symm)) hb);have n2_:=Aside0.mk (blk_below (g:=gb313) (o:=.cells #[.bool false,.bool false,.int .i64 0,.int .i64 0,.int .i64 0,.slice none 0 0] 34 (0,0)) (by (with_reducible repeat (first|refine blk_drewN ?_ _|refine blk_drew ?_|refine blk_alloc ?_ _));exact BK313.out) hb);have n3_:=Aside0.mk (blk_below (g:=gb329) (o:=.cells #[.bool t320,.bool t321,.int .i64 t322,.int .i64 t323,.int .i64 t324,.slice Ao14 t325.length co14] 34 (0,0)) (by (with_reducible repeat (first|refine blk_drewN ?_ _|refine blk_drew ?_|refine blk_alloc ?_ _));exact BK329.out) hb);have n4_:=Aside0.mk (IsS92.below (by repeat (first|(with_reducible first|exact HI0.out|apply IsS92.alloc|apply IsS92.drewN|apply IsS92.drew|apply IsS92.set_1|refine IsS92.far ?_ NB0_313.out _|refine IsS92.far ?_ NB0_329.out _)|exact HI0.out)) hb);have n5_:=Aside0.mk (KeepBut.trans (by repeat (first|(with_reducible first|exact HK.out|apply KeepBut.set_|apply keep_drewN|apply keep_drew|apply keep_alloc|refine keep_far ?_ GW313.out _|refine keep_far ?_ GW329.out _)|exact HK.out)) (KeepBut.of_below hb g none) (.inl rfl));have n6_:=Aside0.mk (below_step (by repeat (first|(with_reducible first|exact HB.out|apply below_alloc|apply pw_below_drewN|apply below_drew1|refine below_set ?_ (IsS92.ge HI0.out)|refine below_set ?_ GE313.out|refine below_set ?_ GE329.out)|exact HB.out)) hb);have n7_:=Aside0.mk (hbox);have n8_:=Aside0.mk ((by rw [hg];exact (keep_size (w:=w) (g:=g) (row:=none) (by repeat (first|(with_reducible first|exact HK.out|apply KeepBut.set_|apply keep_drewN|apply keep_drew|apply keep_alloc|refine keep_far ?_ GW313.out _|refine keep_far ?_ GW329.out _)|exact HK.out))):w.heap.size ≤ gb335));have n9_:=Aside0.mk ((Nat.le_trans HW0.out (by rw [hg];exact (keep_size (w:=w) (g:=g) (row:=none) (by repeat (first|(with_reducible first|exact HK.out|apply KeepBut.set_|apply keep_drewN|apply keep_drew|apply keep_alloc|refine keep_far ?_ GW313.out _|refine keep_far ?_ GW329.out _)|exact HK.out))):w.heap.size ≤ gb335):w0.heap.size ≤ gb335));have n10_:=Aside0.mk ((by rw [hg];exact Nat.ne_of_lt (blk_lt (g:=gb313) (o:=.cells #[.bool false,.bool false,.int .i64 0,.int .i64 0,.int .i64 0,.slice none 0 0] 34 (0,0)) (by (with_reducible repeat (first|refine blk_drewN ?_ _|refine blk_drew ?_|refine blk_alloc ?_ _));exact BK313.out)):gb313 ≠ gb335));have n11_:=Aside0.mk ((by rw [hg];exact Nat.ne_of_gt (blk_lt (g:=gb313) (o:=.cells #[.bool false,.bool false,.int .i64 0,.int .i64 0,.int .i64 0,.slice none 0 0] 34 (0,0)) (by (with_reducible repeat (first|refine blk_drewN ?_ _|refine blk_drew ?_|refine blk_alloc ?_ _));exact BK313.out)):gb335 ≠ gb313));have n12_:=Aside0.mk ((by rw [hg];exact Nat.ne_of_lt (blk_lt (g:=gb329) (o:=.cells #[.bool t320,.bool t321,.int .i64 t322,.int .i64 t323,.int .i64 t324,.slice Ao14 t325.length co14] 34 (0,0)) (by (with_reducible repeat (first|refine blk_drewN ?_ _|refine blk_drew ?_|refine blk_alloc ?_ _));exact BK329.out)):gb329 ≠ gb335));have n13_:=Aside0.mk ((by rw [hg];exact Nat.ne_of_gt (blk_lt (g:=gb329) (o:=.cells #[.bool t320,.bool t321,.int .i64 t322,.int .i64 t323,.int .i64 t324,.slice Ao14 t325.length co14] 34 (0,0)) (by (with_reducible repeat (first|refine blk_drewN ?_ _|refine blk_drew ?_|refine blk_alloc ?_ _));exact BK329.out)):gb335 ≠ gb329));have n14_:=Aside0.mk ((by rw [hg];exact Nat.ne_of_lt (IsS92.lt (show IsS92 w0 _ g s0_0 t333 from by repeat (first|(with_reducible first|exact HI0.out|apply IsS92.alloc|apply IsS92.drewN|apply IsS92.drew|apply IsS92.set_1|refine IsS92.far ?_ NB0_313.out _|refine IsS92.far ?_ NB0_329.out _)|exact HI0.out))):g ≠ gb335));have n15_:=Aside0.mk ((by rw [hg];exact Nat.ne_of_gt (IsS92.lt (show IsS92 w0 _ g s0_0 t333 from by repeat (first|(with_reducible first|exact HI0.out|apply IsS92.alloc|apply IsS92.drewN|apply IsS92.drew|apply IsS92.set_1|refine IsS92.far ?_ NB0_313.out _|refine IsS92.far ?_ NB0_329.out _)|exact HI0.out))):gb335 ≠ g));clear HO_4 HO_330005 BK313 BK329 HI0 HK HB;have HO_4:=n0_;have HO_330005:=n1_;have BK313:=n2_;have BK329:=n3_;have HI0:=n4_;have HK:=n5_;have HB:=n6_;have BK335:=n7_;have GW335:=n8_;have GE335:=n9_;have NB313_335:=n10_;have NB335_313:=n11_;have NB329_335:=n12_;have NB335_329:=n13_;have NB0_335:=n14_;have NB335_0:=n15_;clear n0_ n1_ n2_ n3_ n4_ n5_ n6_ n7_ n8_ n9_ n10_ n11_ n12_ n13_ n14_ n15_;clear hb hbox hg;have hnb57:=NB335_313.out;have hnc57:=NB313_335.out;have hnb58:=NB335_329.out;have hnc58:=NB329_335.out;have hnb59:=NB335_0.out;have hnc59:=NB0_335.out;have hcz60_0:w56.cell? ⟨gb335,0,none⟩=some (.int .i64 0):=(blk_cell BK335.out 0).trans rfl;have hcz60_1:w56.cell? ⟨gb335,1,none⟩=some (.int .i64 0):=(blk_cell BK335.out 1).trans rfl;have hcz60_2:w56.cell? ⟨gb335,2,none⟩=some (.int .i64 0):=(blk_cell BK335.out 2).trans rfl;have hfz60_0:=blk_frozen BK335.out 0;have hfz60_1:=blk_frozen BK335.out 1;have hfz60_2:=blk_frozen BK335.out 2;have hnb61:=NB329_313.out;have hnc61:=NB313_329.out;have hnb62:=NB329_0.out;have hnc62:=NB0_329.out;have hcz63_0:w56.cell? ⟨gb329,0,none⟩=some (.bool t320):=(blk_cell BK329.out 0).trans rfl;have hcz63_1:w56.cell? ⟨gb329,1,none⟩=some (.bool t321):=(blk_cell BK329.out 1).trans rfl;have hcz63_2:w56.cell? ⟨gb329,2,none⟩=some (.int .i64 t322):=(blk_cell BK329.out 2).trans rfl;have hcz63_3:w56.cell? ⟨gb329,3,none⟩=some (.int .i64 t323):=(blk_cell BK329.out 3).trans rfl;have hcz63_4:w56.cell? ⟨gb329,4,none⟩=some (.int .i64 t324):=(blk_cell BK329.out 4).trans rfl;have hcz63_5:w56.cell? ⟨gb329,5,none⟩=some (.slice Ao14 t325.length co14):=(blk_cell BK329.out 5).trans rfl;have hfz63_0:=blk_frozen BK329.out 0;have hfz63_1:=blk_frozen BK329.out 1;have hfz63_2:=blk_frozen BK329.out 2;have hfz63_3:=blk_frozen BK329.out 3;have hfz63_4:=blk_frozen BK329.out 4;have hfz63_5:=blk_frozen BK329.out 5)|((with_reducible refine gate_callee (f:=67) rfl ?_);refine goesL_ (some 38) rfl rfl Try.func67 (by kernel_rfl) rfl #[.pointer (some ⟨g,0,none⟩),.int .i64 6] rfl (by (try simp only [map_toArray,map_cons,map_nil]);first|done|rfl|(simp only [length_drop,length_take];rfl)) ?_;(with_reducible refine (spec_l6Rd_pick.calls kj4 g s0_0 t333 6 t336 t337 w0 _ ?side1 ?side2 A24.out).mono ?_);(case side1=>repeat (first|(with_reducible first|exact HI0.out|apply IsS92.alloc|apply IsS92.drewN|apply IsS92.drew|apply IsS92.set_1|refine IsS92.far ?_ NB0_313.out _|refine IsS92.far ?_ NB0_329.out _|refine IsS92.far ?_ NB0_335.out _)|exact HI0.out));(case side2=>repeat (first|(with_reducible first|exact HB.out|apply below_alloc|apply pw_below_drewN|apply below_drew1|refine below_set ?_ (IsS92.ge HI0.out)|refine below_set ?_ GE313.out|refine below_set ?_ GE329.out|refine below_set ?_ GE335.out)|exact HB.out));rintro e w64 ⟨rfl,hi,hb,hk⟩;refine ⟨_,rfl,?_⟩;have n0_:=Aside0.mk (Kd.R_mono (Kd.R_keep (IsS92.apart (show IsS92 w0 _ g s0_0 t333 from by repeat (first|(with_reducible first|exact HI0.out|apply IsS92.alloc|apply IsS92.drewN|apply IsS92.drew|apply IsS92.set_1|refine IsS92.far ?_ NB0_313.out _|refine IsS92.far ?_ NB0_329.out _|refine IsS92.far ?_ NB0_335.out _)|exact HI0.out)) (by (with_reducible repeat (first|apply Kd.R_alloc|apply Kd.R_drewN|apply Kd.R_drew));exact (Kd.R_mono (Kd.R_mono (Kd.R_far (p:=⟨gb329,4,none⟩) (Kd.R_far (p:=⟨gb329,3,none⟩) (Kd.R_far (p:=⟨gb329,2,none⟩) (Kd.R_far (p:=⟨gb335,2,none⟩) (Kd.R_far (p:=⟨gb335,1,none⟩) (Kd.R_far (p:=⟨gb335,0,none⟩) (Kd.R_types (Kd.R_mono HO_4.out (fun k_ hk=>(⟨hk,hk.2⟩:_∧k_ ≠ gb335))) BK329.out (by decide)) (fun _ hk=>hk.1.2) (.int .i64 ((rd_T39 t314 t332).f0))) (fun _ hk=>hk.1.2) (.int .i64 ((rd_T39 t314 t332).f1))) (fun _ hk=>hk.1.2) (.int .i64 ((rd_T39 t314 t332).f2))) (fun _ hk=>hk.2) (.int .i64 ((rd_T39 t314 t332).f0))) (fun _ hk=>hk.2) (.int .i64 ((rd_T39 t314 t332).f1))) (fun _ hk=>hk.2) (.int .i64 ((rd_T39 t314 t332).f2))) (fun _ h_=>h_.1)) (fun _ h_=>h_.1))) (by decide)) hk (fun _ h=>h.2)) (fun _ h=>h.1));have n1_:=Aside0.mk (Kd.N_mono (Kd.N_keep (Kd.N_mono (ok:=fun k_=>((((w.heap.size ≤ k_))∧(some k_ ≠ (.slice (some ad334) t314.length co54:Value).ownBlock∧(k_ ≠ gb313∧(k_ ≠ gb329∧k_ ≠ g))))∧k_ ≠ gb335)) (by (with_reducible repeat (first|apply Kd.N_alloc|apply Kd.N_drewN|apply Kd.N_drew));exact (Kd.N_mono (Kd.N_mono (Kd.N_far (p:=⟨gb329,4,none⟩) (Kd.N_far (p:=⟨gb329,3,none⟩) (Kd.N_far (p:=⟨gb329,2,none⟩) (Kd.N_far (p:=⟨gb335,2,none⟩) (Kd.N_far (p:=⟨gb335,1,none⟩) (Kd.N_far (p:=⟨gb335,0,none⟩) (Kd.N_mono (Kd.N_mono HO_330005.out (fun k_ hk=>(⟨hk,hk.2⟩:_∧k_ ≠ gb335))) (fun k_ hk=>(⟨hk,hk.1.1.2.2.2.1⟩:_∧k_ ≠ gb329))) (fun _ hk=>hk.1.2) (.int .i64 ((rd_T39 t314 t332).f0))) (fun _ hk=>hk.1.2) (.int .i64 ((rd_T39 t314 t332).f1))) (fun _ hk=>hk.1.2) (.int .i64 ((rd_T39 t314 t332).f2))) (fun _ hk=>hk.2) (.int .i64 ((rd_T39 t314 t332).f0))) (fun _ hk=>hk.2) (.int .i64 ((rd_T39 t314 t332).f1))) (fun _ hk=>hk.2) (.int .i64 ((rd_T39 t314 t332).f2))) (fun _ h_=>h_.1)) (fun _ h_=>h_.1))) (fun k_ hk_=>(⟨hk_,hk_.1.2.2.2.2⟩:_∧k_ ≠ g))) hk (fun _ h=>h.2)) (fun _ h=>h.1));have n2_:=Aside0.mk (KeepBut.blk hk (g':=gb313) (o:=.cells #[.bool false,.bool false,.int .i64 0,.int .i64 0,.int .i64 0,.slice none 0 0] 34 (0,0)) (by (with_reducible repeat (first|refine blk_drewN ?_ _|refine blk_drew ?_|refine blk_alloc ?_ _));refine blk_far ?_ NB313_329.out _;(with_reducible repeat (first|refine blk_drewN ?_ _|refine blk_drew ?_|refine blk_alloc ?_ _));refine blk_far ?_ NB313_329.out _;(with_reducible repeat (first|refine blk_drewN ?_ _|refine blk_drew ?_|refine blk_alloc ?_ _));refine blk_far ?_ NB313_329.out _;(with_reducible repeat (first|refine blk_drewN ?_ _|refine blk_drew ?_|refine blk_alloc ?_ _));refine blk_far ?_ NB313_335.out _;(with_reducible repeat (first|refine blk_drewN ?_ _|refine blk_drew ?_|refine blk_alloc ?_ _));refine blk_far ?_ NB313_335.out _;(with_reducible repeat (first|refine blk_drewN ?_ _|refine blk_drew ?_|refine blk_alloc ?_ _));refine blk_far ?_ NB313_335.out _;(with_reducible repeat (first|refine blk_drewN ?_ _|refine blk_drew ?_|refine blk_alloc ?_ _));exact BK313.out) NB313_0.out (by simp));have n3_:=Aside0.mk (KeepBut.blk hk (g':=gb329) (o:=.cells #[.bool t320,.bool t321,.int .i64 ((rd_T39 t314 t332).f0),.int .i64 ((rd_T39 t314 t332).f1),.int .i64 ((rd_T39 t314 t332).f2),.slice Ao14 t325.length co14] 34 (0,0)) (by (with_reducible repeat (first|refine blk_drewN ?_ _|refine blk_drew ?_|refine blk_alloc ?_ _));refine blk_put (cs:=#[.bool t320,.bool t321,.int .i64 ((rd_T39 t314 t332).f0),.int .i64 ((rd_T39 t314 t332).f1),.int .i64 t324,.slice Ao14 t325.length co14]) ?_ 4 _ rfl;(with_reducible repeat (first|refine blk_drewN ?_ _|refine blk_drew ?_|refine blk_alloc ?_ _));refine blk_put (cs:=#[.bool t320,.bool t321,.int .i64 ((rd_T39 t314 t332).f0),.int .i64 t323,.int .i64 t324,.slice Ao14 t325.length co14]) ?_ 3 _ rfl;(with_reducible repeat (first|refine blk_drewN ?_ _|refine blk_drew ?_|refine blk_alloc ?_ _));refine blk_put (cs:=#[.bool t320,.bool t321,.int .i64 t322,.int .i64 t323,.int .i64 t324,.slice Ao14 t325.length co14]) ?_ 2 _ rfl;(with_reducible repeat (first|refine blk_drewN ?_ _|refine blk_drew ?_|refine blk_alloc ?_ _));refine blk_far ?_ NB329_335.out _;(with_reducible repeat (first|refine blk_drewN ?_ _|refine blk_drew ?_|refine blk_alloc ?_ _));refine blk_far ?_ NB329_335.out _;(with_reducible repeat (first|refine blk_drewN ?_ _|refine blk_drew ?_|refine blk_alloc ?_ _));refine blk_far ?_ NB329_335.out _;(with_reducible repeat (first|refine blk_drewN ?_ _|refine blk_drew ?_|refine blk_alloc ?_ _));exact BK329.out) NB329_0.out (by simp));have n4_:=Aside0.mk (KeepBut.blk hk (g':=gb335) (o:=.cells #[.int .i64 ((rd_T39 t314 t332).f0),.int .i64 ((rd_T39 t314 t332).f1),.int .i64 ((rd_T39 t314 t332).f2)] 39 (0,0)) (by (with_reducible repeat (first|refine blk_drewN ?_ _|refine blk_drew ?_|refine blk_alloc ?_ _));refine blk_far ?_ NB335_329.out _;(with_reducible repeat (first|refine blk_drewN ?_ _|refine blk_drew ?_|refine blk_alloc ?_ _));refine blk_far ?_ NB335_329.out _;(with_reducible repeat (first|refine blk_drewN ?_ _|refine blk_drew ?_|refine blk_alloc ?_ _));refine blk_far ?_ NB335_329.out _;(with_reducible repeat (first|refine blk_drewN ?_ _|refine blk_drew ?_|refine blk_alloc ?_ _));refine blk_put (cs:=#[.int .i64 ((rd_T39 t314 t332).f0),.int .i64 ((rd_T39 t314 t332).f1),.int .i64 0]) ?_ 2 _ rfl;(with_reducible repeat (first|refine blk_drewN ?_ _|refine blk_drew ?_|refine blk_alloc ?_ _));refine blk_put (cs:=#[.int .i64 ((rd_T39 t314 t332).f0),.int .i64 0,.int .i64 0]) ?_ 1 _ rfl;(with_reducible repeat (first|refine blk_drewN ?_ _|refine blk_drew ?_|refine blk_alloc ?_ _));refine blk_put (cs:=#[.int .i64 0,.int .i64 0,.int .i64 0]) ?_ 0 _ rfl;(with_reducible repeat (first|refine blk_drewN ?_ _|refine blk_drew ?_|refine blk_alloc ?_ _));exact BK335.out) NB335_0.out (by simp));have n5_:=Aside0.mk (KeepBut.trans (by repeat (first|(with_reducible first|exact HK.out|apply KeepBut.set_|apply keep_drewN|apply keep_drew|apply keep_alloc|refine keep_far ?_ GW313.out _|refine keep_far ?_ GW329.out _|refine keep_far ?_ GW335.out _)|exact HK.out)) hk (.inl rfl));have n6_:=Aside0.mk (hb);have n7_:=Aside0.mk (hi);clear HO_4 HO_330005 BK313 BK329 BK335 HK HB HI0;have HO_4:=n0_;have HO_330005:=n1_;have BK313:=n2_;have BK329:=n3_;have BK335:=n4_;have HK:=n5_;have HB:=n6_;have HI0:=n7_;clear n0_ n1_ n2_ n3_ n4_ n5_ n6_ n7_;(try clear hb);(try clear hb2);(try clear hk);(try clear hi)))
        have n0_:=Aside0.mk (Kd.R_drew HO_4.out)
        have n1_:=Aside0.mk (Kd.N_drew HO_330005.out)
        have n2_:=Aside0.mk (blk_drew BK313.out)
        have n3_:=Aside0.mk (blk_drew BK329.out)
        have n4_:=Aside0.mk (blk_drew BK335.out)
        have n5_:=Aside0.mk (IsS92.drew HI0.out)
        have n6_:=Aside0.mk (keep_drew HK.out)
        have n7_:=Aside0.mk (below_drew1 HB.out)
        clear HO_4
        clear HO_330005
        clear BK313
        clear BK329
        clear BK335
        clear HI0
        clear HK
        clear HB
        have HO_4:=n0_
        have HO_330005:=n1_
        have BK313:=n2_
        have BK329:=n3_
        have BK335:=n4_
        have HI0:=n5_
        have HK:=n6_
        have HB:=n7_
        clear n0_ n1_ n2_ n3_ n4_ n5_ n6_ n7_
        refine start_ (n:=9) (S:=fun w'=>w'.cell? ⟨gb335,0,none⟩=some (.int .i64 ((rd_T39 t314 t332).f0))∧w'.cell? ⟨gb335,1,none⟩=some (.int .i64 ((rd_T39 t314 t332).f1))∧w'.cell? ⟨gb335,2,none⟩=some (.int .i64 ((rd_T39 t314 t332).f2))) (ds:=[]) #[false,false,false,false,false,false,false,false,false] (by kernel_rfl) rfl rfl ⟨(blk_cell BK335.out 0).trans rfl,(blk_cell BK335.out 1).trans rfl,(blk_cell BK335.out 2).trans rfl⟩ (fun hHeld=>?_);refine with_tabW spec_l92Numbered.tab12 spec_l92Numbered.bits12 (fun HT_ HW_=>?_)
        generalize w64.drew=w65 at HO_4 HO_330005 BK313 BK329 BK335 HI0 HK HB hHeld ⊢
        refine pure_ (i:=0) (N:=some 51) (v:=?_) (a':=?_) #[true,false,false,false,false,false,false,false,false] rfl rfl (any_of HT_.out (by kernel_rfl)) (fun _ _ _ h=>h) (Or.inl ⟨by rfl,?_⟩) ?_ ?_
        rotate_left
        ·intro w'
         go_simp
         with_reducible rfl
        rotate_left
        ·simp only [Act.put,setIfInBounds_toArray,set_cons_zero,set_cons_succ,i64_w,i32_w]
         rfl
        refine pure_ (i:=2) (N:=some 53) (v:=?_) (a':=?_) #[true,false,true,false,false,false,false,false,false] rfl rfl (any_of HT_.out (by kernel_rfl)) (fun _ _ _ h=>h) (Or.inl ⟨by rfl,?_⟩) ?_ ?_
        rotate_left
        ·intro w'
         go_simp
         with_reducible rfl
        rotate_left
        ·simp only [Act.put,setIfInBounds_toArray,set_cons_zero,set_cons_succ,i64_w,i32_w]
         rfl
        refine take_ (i:=1) (N:=some 52) (v:=?_) (a':=?_) #[true,true,true,false,false,false,false,false,false] rfl rfl (take_ofW HT_.out HW_.out (by kernel_rfl)) (fun _ _ _ h=>h) (Or.inl ⟨by rfl,?_⟩) hHeld ?_ ?_
        rotate_left
        ·rintro w' ⟨s0,s1,s2⟩
         go_simp
         with_reducible rfl
        rotate_left
        ·simp only [Act.put,setIfInBounds_toArray,set_cons_zero,set_cons_succ,i64_w,i32_w]
         rfl
        refine one_ (i:=3) (N:=some 54) #[true,true,true,true,false,false,false,false,false] rfl rfl (one_of HT_.out (by kernel_rfl)) (by decide) (fun K hK=>?_)
        refine goes_ Try.func67 (by kernel_rfl) rfl #[.pointer (some ⟨g,0,none⟩),.int .i64 3] (by rfl) rfl rfl (by (try simp only [map_toArray,map_cons,map_nil]);first|done|rfl|(simp only [length_drop,length_take];rfl)) ?_
        with_reducible refine (spec_l6Rd_pick.calls kj4 g s0_0 t337 3 t340 t341 w0 _ ?side1 ?side2 A51.out).mono ?_
        (case side1=>repeat (first|(with_reducible first|exact HI0.out|apply IsS92.alloc|apply IsS92.drewN|apply IsS92.drew|apply IsS92.set_1|refine IsS92.far ?_ NB0_313.out _|refine IsS92.far ?_ NB0_329.out _|refine IsS92.far ?_ NB0_335.out _)|exact HI0.out))
        (case side2=>repeat (first|(with_reducible first|exact HB.out|apply below_alloc|apply pw_below_drewN|apply below_drew1|refine below_set ?_ (IsS92.ge HI0.out)|refine below_set ?_ GE313.out|refine below_set ?_ GE329.out|refine below_set ?_ GE335.out)|exact HB.out))
        rintro e w66 ⟨rfl,hi,hb,hk⟩
        refine ⟨_,rfl,?_⟩
        have n0_:=Aside0.mk (Kd.R_mono (Kd.R_keep (IsS92.apart (show IsS92 w0 _ g s0_0 t337 from by repeat (first|(with_reducible first|exact HI0.out|apply IsS92.alloc|apply IsS92.drewN|apply IsS92.drew|apply IsS92.set_1|refine IsS92.far ?_ NB0_313.out _|refine IsS92.far ?_ NB0_329.out _|refine IsS92.far ?_ NB0_335.out _)|exact HI0.out)) (by (with_reducible repeat (first|apply Kd.R_alloc|apply Kd.R_drewN|apply Kd.R_drew));exact HO_4.out) (by decide)) hk (fun _ h=>h.2)) (fun _ h=>h.1))
        have n1_:=Aside0.mk (Kd.N_mono (Kd.N_keep (Kd.N_mono (ok:=fun k_=>((((w.heap.size ≤ k_))∧(some k_ ≠ (.slice (some ad334) t314.length co54:Value).ownBlock∧(k_ ≠ gb313∧(k_ ≠ gb329∧k_ ≠ g))))∧k_ ≠ gb335)) (by (with_reducible repeat (first|apply Kd.N_alloc|apply Kd.N_drewN|apply Kd.N_drew));exact HO_330005.out) (fun k_ hk_=>(⟨hk_,hk_.1.2.2.2.2⟩:_∧k_ ≠ g))) hk (fun _ h=>h.2)) (fun _ h=>h.1))
        have n2_:=Aside0.mk (KeepBut.blk hk (g':=gb313) (o:=.cells #[.bool false,.bool false,.int .i64 0,.int .i64 0,.int .i64 0,.slice none 0 0] 34 (0,0)) (by (with_reducible repeat (first|refine blk_drewN ?_ _|refine blk_drew ?_|refine blk_alloc ?_ _));exact BK313.out) NB313_0.out (by simp))
        have n3_:=Aside0.mk (KeepBut.blk hk (g':=gb329) (o:=.cells #[.bool t320,.bool t321,.int .i64 ((rd_T39 t314 t332).f0),.int .i64 ((rd_T39 t314 t332).f1),.int .i64 ((rd_T39 t314 t332).f2),.slice Ao14 t325.length co14] 34 (0,0)) (by (with_reducible repeat (first|refine blk_drewN ?_ _|refine blk_drew ?_|refine blk_alloc ?_ _));exact BK329.out) NB329_0.out (by simp))
        have n4_:=Aside0.mk (KeepBut.blk hk (g':=gb335) (o:=.cells #[.int .i64 ((rd_T39 t314 t332).f0),.int .i64 ((rd_T39 t314 t332).f1),.int .i64 ((rd_T39 t314 t332).f2)] 39 (0,0)) (by (with_reducible repeat (first|refine blk_drewN ?_ _|refine blk_drew ?_|refine blk_alloc ?_ _));exact BK335.out) NB335_0.out (by simp))
        have n5_:=Aside0.mk (KeepBut.trans (by repeat (first|(with_reducible first|exact HK.out|apply KeepBut.set_|apply keep_drewN|apply keep_drew|apply keep_alloc|refine keep_far ?_ GW313.out _|refine keep_far ?_ GW329.out _|refine keep_far ?_ GW335.out _)|exact HK.out)) hk (.inl rfl))
        have n6_:=Aside0.mk (hb)
        have n7_:=Aside0.mk (hi)
        clear HO_4
        clear HO_330005
        clear BK313
        clear BK329
        clear BK335
        clear HK
        clear HB
        clear HI0
        have HO_4:=n0_
        have HO_330005:=n1_
        have BK313:=n2_
        have BK329:=n3_
        have BK335:=n4_
        have HK:=n5_
        have HB:=n6_
        have HI0:=n7_
        clear n0_ n1_ n2_ n3_ n4_ n5_ n6_ n7_
        (try clear hb)
        (try clear hb2)
        (try clear hk)
        (try clear hi)
        refine hK.out _ _ ⟨(blk_cell BK335.out 0).trans rfl,(blk_cell BK335.out 1).trans rfl,(blk_cell BK335.out 2).trans rfl⟩ (fun hHeld=>?_)
        clear hK K
        refine norm_ (a':=?_) ?_ ?_
        rotate_left
        ·show Act.put _ (some 54) _ = _
         simp only [Act.put,setIfInBounds_toArray,set_cons_zero,set_cons_succ,i64_w,i32_w]
         rfl
        refine pure_ (i:=4) (N:=some 55) (v:=?_) (a':=?_) #[true,true,true,true,true,false,false,false,false] rfl rfl (any_of HT_.out (by kernel_rfl)) (fun _ _ _ h=>h) (Or.inl ⟨by rfl,?_⟩) ?_ ?_
        rotate_left
        ·intro w'
         go_simp
         with_reducible rfl
        rotate_left
        ·simp only [Act.put,setIfInBounds_toArray,set_cons_zero,set_cons_succ,i64_w,i32_w]
         rfl
        refine pure_ (i:=5) (N:=some 56) (v:=?_) (a':=?_) #[true,true,true,true,true,true,false,false,false] rfl rfl (any_of HT_.out (by kernel_rfl)) (fun _ _ _ h=>h) (Or.inl ⟨by rfl,?_⟩) ?_ ?_
        rotate_left
        ·intro w'
         go_simp
         with_reducible rfl
        rotate_left
        ·simp only [Act.put,setIfInBounds_toArray,set_cons_zero,set_cons_succ,i64_w,i32_w]
         rfl
        refine pure_ (i:=6) (N:=some 57) (v:=?_) (a':=?_) #[true,true,true,true,true,true,true,false,false] rfl rfl (any_of HT_.out (by kernel_rfl)) (fun _ _ _ h=>h) (Or.inl ⟨by rfl,?_⟩) ?_ ?_
        rotate_left
        ·intro w'
         go_simp
         with_reducible rfl
        rotate_left
        ·simp only [Act.put,setIfInBounds_toArray,set_cons_zero,set_cons_succ,i64_w,i32_w]
         rfl
        refine pure_ (i:=7) (N:=some 58) (v:=?_) (a':=?_) #[true,true,true,true,true,true,true,true,false] rfl rfl (any_of HT_.out (by kernel_rfl)) (fun _ _ _ h=>h) (Or.inl ⟨by rfl,?_⟩) ?_ ?_
        rotate_left
        ·intro w'
         go_simp
         with_reducible rfl
        rotate_left
        ·simp only [Act.put,setIfInBounds_toArray,set_cons_zero,set_cons_succ,i64_w,i32_w]
         rfl
        refine one_ (i:=8) (N:=none) #[true,true,true,true,true,true,true,true,true] rfl rfl (one_of HT_.out (by kernel_rfl)) (by decide) (fun K hK=>?_)
        have hs67:w66.cell? ⟨gb329,3,none⟩=some (.int .i64 ((rd_T39 t314 t332).f1)):=(blk_cell BK329.out 3).trans rfl
        have hfs67:=blk_frozen BK329.out 3
        have hns67_0:=NB313_329.out
        have hns67_2:=NB335_329.out
        have hms67_0:=NB329_313.out
        have hms67_2:=NB329_335.out
        refine skip_ (w1:=?_) (by rfl) rfl ?_ ?_
        rotate_left
        ·go_simp
         rfl
        refine hK.out _ _ ⟨((cell_far (p:=⟨gb329,_,none⟩) NB335_329.out _).trans (hHeld.1)),((cell_far (p:=⟨gb329,_,none⟩) NB335_329.out _).trans (hHeld.2.1)),((cell_far (p:=⟨gb329,_,none⟩) NB335_329.out _).trans (hHeld.2.2))⟩ (fun hHeld=>?_)
        clear hK K
        refine done_ (done_of HT_.out (by kernel_rfl)) ?_
        try go_wp2_with (first|((with_reducible refine gate_callee (f:=67) rfl ?_);refine goesL_ (some 60) rfl rfl Try.func67 (by kernel_rfl) rfl #[.pointer (some ⟨g,0,none⟩),.int .i64 2] rfl (by (try simp only [map_toArray,map_cons,map_nil]);first|done|rfl|(simp only [length_drop,length_take];rfl)) ?_;(with_reducible refine (spec_l6Rd_pick.calls kj4 g s0_0 t341 2 t342 t343 w0 _ ?side1 ?side2 A53.out).mono ?_);(case side1=>repeat (first|(with_reducible first|exact HI0.out|apply IsS92.alloc|apply IsS92.drewN|apply IsS92.drew|apply IsS92.set_1|refine IsS92.far ?_ NB0_313.out _|refine IsS92.far ?_ NB0_329.out _|refine IsS92.far ?_ NB0_335.out _)|exact HI0.out));(case side2=>repeat (first|(with_reducible first|exact HB.out|apply below_alloc|apply pw_below_drewN|apply below_drew1|refine below_set ?_ (IsS92.ge HI0.out)|refine below_set ?_ GE313.out|refine below_set ?_ GE329.out|refine below_set ?_ GE335.out)|exact HB.out));rintro e w68 ⟨rfl,hi,hb,hk⟩;refine ⟨_,rfl,?_⟩;have n0_:=Aside0.mk (Kd.R_mono (Kd.R_keep (IsS92.apart (show IsS92 w0 _ g s0_0 t341 from by repeat (first|(with_reducible first|exact HI0.out|apply IsS92.alloc|apply IsS92.drewN|apply IsS92.drew|apply IsS92.set_1|refine IsS92.far ?_ NB0_313.out _|refine IsS92.far ?_ NB0_329.out _|refine IsS92.far ?_ NB0_335.out _)|exact HI0.out)) (by (with_reducible repeat (first|apply Kd.R_alloc|apply Kd.R_drewN|apply Kd.R_drew));exact (Kd.R_mono (Kd.R_far (p:=⟨gb329,3,none⟩) (Kd.R_types HO_4.out BK329.out (by decide)) (fun _ hk=>hk.2) (.int .i64 ji52)) (fun _ h_=>h_.1))) (by decide)) hk (fun _ h=>h.2)) (fun _ h=>h.1));have n1_:=Aside0.mk (Kd.N_mono (Kd.N_keep (Kd.N_mono (ok:=fun k_=>((((w.heap.size ≤ k_))∧(some k_ ≠ (.slice (some ad334) t314.length co54:Value).ownBlock∧(k_ ≠ gb313∧(k_ ≠ gb329∧k_ ≠ g))))∧k_ ≠ gb335)) (by (with_reducible repeat (first|apply Kd.N_alloc|apply Kd.N_drewN|apply Kd.N_drew));exact (Kd.N_mono (Kd.N_far (p:=⟨gb329,3,none⟩) (Kd.N_mono HO_330005.out (fun k_ hk=>(⟨hk,hk.1.2.2.2.1⟩:_∧k_ ≠ gb329))) (fun _ hk=>hk.2) (.int .i64 ji52)) (fun _ h_=>h_.1))) (fun k_ hk_=>(⟨hk_,hk_.1.2.2.2.2⟩:_∧k_ ≠ g))) hk (fun _ h=>h.2)) (fun _ h=>h.1));have n2_:=Aside0.mk (KeepBut.blk hk (g':=gb313) (o:=.cells #[.bool false,.bool false,.int .i64 0,.int .i64 0,.int .i64 0,.slice none 0 0] 34 (0,0)) (by (with_reducible repeat (first|refine blk_drewN ?_ _|refine blk_drew ?_|refine blk_alloc ?_ _));refine blk_far ?_ NB313_329.out _;(with_reducible repeat (first|refine blk_drewN ?_ _|refine blk_drew ?_|refine blk_alloc ?_ _));exact BK313.out) NB313_0.out (by simp));have n3_:=Aside0.mk (KeepBut.blk hk (g':=gb329) (o:=.cells #[.bool t320,.bool t321,.int .i64 ((rd_T39 t314 t332).f0),.int .i64 ji52,.int .i64 ((rd_T39 t314 t332).f2),.slice Ao14 t325.length co14] 34 (0,0)) (by (with_reducible repeat (first|refine blk_drewN ?_ _|refine blk_drew ?_|refine blk_alloc ?_ _));refine blk_put (cs:=#[.bool t320,.bool t321,.int .i64 ((rd_T39 t314 t332).f0),.int .i64 ((rd_T39 t314 t332).f1),.int .i64 ((rd_T39 t314 t332).f2),.slice Ao14 t325.length co14]) ?_ 3 _ rfl;(with_reducible repeat (first|refine blk_drewN ?_ _|refine blk_drew ?_|refine blk_alloc ?_ _));exact BK329.out) NB329_0.out (by simp));have n4_:=Aside0.mk (KeepBut.blk hk (g':=gb335) (o:=.cells #[.int .i64 ((rd_T39 t314 t332).f0),.int .i64 ((rd_T39 t314 t332).f1),.int .i64 ((rd_T39 t314 t332).f2)] 39 (0,0)) (by (with_reducible repeat (first|refine blk_drewN ?_ _|refine blk_drew ?_|refine blk_alloc ?_ _));refine blk_far ?_ NB335_329.out _;(with_reducible repeat (first|refine blk_drewN ?_ _|refine blk_drew ?_|refine blk_alloc ?_ _));exact BK335.out) NB335_0.out (by simp));have n5_:=Aside0.mk (KeepBut.trans (by repeat (first|(with_reducible first|exact HK.out|apply KeepBut.set_|apply keep_drewN|apply keep_drew|apply keep_alloc|refine keep_far ?_ GW313.out _|refine keep_far ?_ GW329.out _|refine keep_far ?_ GW335.out _)|exact HK.out)) hk (.inl rfl));have n6_:=Aside0.mk (hb);have n7_:=Aside0.mk (hi);clear HO_4 HO_330005 BK313 BK329 BK335 HK HB HI0;have HO_4:=n0_;have HO_330005:=n1_;have BK313:=n2_;have BK329:=n3_;have BK335:=n4_;have HK:=n5_;have HB:=n6_;have HI0:=n7_;clear n0_ n1_ n2_ n3_ n4_ n5_ n6_ n7_;(try clear hb);(try clear hb2);(try clear hk);(try clear hi);have hcz69_0:w68.cell? ⟨gb329,0,none⟩=some (.bool t320):=(blk_cell BK329.out 0).trans rfl;have hcz69_1:w68.cell? ⟨gb329,1,none⟩=some (.bool t321):=(blk_cell BK329.out 1).trans rfl;have hcz69_2:w68.cell? ⟨gb329,2,none⟩=some (.int .i64 ((rd_T39 t314 t332).f0)):=(blk_cell BK329.out 2).trans rfl;have hcz69_3:w68.cell? ⟨gb329,3,none⟩=some (.int .i64 ji52):=(blk_cell BK329.out 3).trans rfl;have hcz69_4:w68.cell? ⟨gb329,4,none⟩=some (.int .i64 ((rd_T39 t314 t332).f2)):=(blk_cell BK329.out 4).trans rfl;have hcz69_5:w68.cell? ⟨gb329,5,none⟩=some (.slice Ao14 t325.length co14):=(blk_cell BK329.out 5).trans rfl;have hfz69_0:=blk_frozen BK329.out 0;have hfz69_1:=blk_frozen BK329.out 1;have hfz69_2:=blk_frozen BK329.out 2;have hfz69_3:=blk_frozen BK329.out 3;have hfz69_4:=blk_frozen BK329.out 4;have hfz69_5:=blk_frozen BK329.out 5))
        have n0_:Aside0 (Kd.R k39 39 (w68.setCell ⟨gb329,4,none⟩ (.int .i64 t342)) w.heap.size (fun k_=>(w.heap.size ≤ k_)∧k_ ≠ gb335) (.slice (some ad334) t314.length co54) t314):=⟨by (with_reducible repeat (first|apply Kd.R_alloc|apply Kd.R_drewN|apply Kd.R_drew));exact Kd.R_mono (Kd.R_far (p:=⟨gb329,4,none⟩) (Kd.R_types HO_4.out BK329.out (by decide)) (fun _ hk=>hk.2) (.int .i64 t342)) (fun _ hk=>⟨hk.1.1,hk.1.2⟩)⟩
        have n1_:Aside0 (Kd.N k79 79 (w68.setCell ⟨gb329,4,none⟩ (.int .i64 t342)) w.heap.size (fun k_=>(w.heap.size ≤ k_)∧some k_ ≠ (.slice (some ad334) t314.length co54:Value).ownBlock∧k_ ≠ gb313∧k_ ≠ gb329∧k_ ≠ g∧k_ ≠ gb335) (.slice Ao14 t325.length co14) t325):=⟨by (with_reducible repeat (first|apply Kd.N_alloc|apply Kd.N_drewN|apply Kd.N_drew));exact Kd.N_mono (Kd.N_far (p:=⟨gb329,4,none⟩) (Kd.N_mono HO_330005.out (fun k_ hk=>(⟨hk,hk.1.2.2.2.1⟩:_∧k_ ≠ gb329))) (fun _ hk=>hk.2) (.int .i64 t342)) (fun _ hk=>⟨hk.1.1.1,⟨hk.1.1.2.1,⟨hk.1.1.2.2.1,⟨hk.1.1.2.2.2.1,⟨hk.1.1.2.2.2.2,hk.1.2⟩⟩⟩⟩⟩)⟩
        have n2_:Aside0 ((w68.setCell ⟨gb329,4,none⟩ (.int .i64 t342)).heap[gb313]? = some (.cells #[.bool false,.bool false,.int .i64 0,.int .i64 0,.int .i64 0,.slice none 0 0] 34 (0,0))):=⟨by (with_reducible repeat (first|refine blk_drewN ?_ _|refine blk_drew ?_|refine blk_alloc ?_ _));refine blk_far ?_ NB313_329.out _;(with_reducible repeat (first|refine blk_drewN ?_ _|refine blk_drew ?_|refine blk_alloc ?_ _));exact BK313.out⟩
        have n3_:Aside0 ((w68.setCell ⟨gb329,4,none⟩ (.int .i64 t342)).heap[gb329]? = some (.cells #[.bool t320,.bool t321,.int .i64 ((rd_T39 t314 t332).f0),.int .i64 ji52,.int .i64 t342,.slice Ao14 t325.length co14] 34 (0,0))):=⟨by (with_reducible repeat (first|refine blk_drewN ?_ _|refine blk_drew ?_|refine blk_alloc ?_ _));refine blk_put (cs:=#[.bool t320,.bool t321,.int .i64 ((rd_T39 t314 t332).f0),.int .i64 ji52,.int .i64 ((rd_T39 t314 t332).f2),.slice Ao14 t325.length co14]) ?_ 4 _ rfl;(with_reducible repeat (first|refine blk_drewN ?_ _|refine blk_drew ?_|refine blk_alloc ?_ _));exact BK329.out⟩
        have n4_:Aside0 ((w68.setCell ⟨gb329,4,none⟩ (.int .i64 t342)).heap[gb335]? = some (.cells #[.int .i64 ((rd_T39 t314 t332).f0),.int .i64 ((rd_T39 t314 t332).f1),.int .i64 ((rd_T39 t314 t332).f2)] 39 (0,0))):=⟨by (with_reducible repeat (first|refine blk_drewN ?_ _|refine blk_drew ?_|refine blk_alloc ?_ _));refine blk_far ?_ NB335_329.out _;(with_reducible repeat (first|refine blk_drewN ?_ _|refine blk_drew ?_|refine blk_alloc ?_ _));exact BK335.out⟩
        have n5_:Aside0 (IsS92 w0 (w68.setCell ⟨gb329,4,none⟩ (.int .i64 t342)) g s0_0 t343):=⟨by repeat (first|(with_reducible first|exact HI0.out|apply IsS92.alloc|apply IsS92.drewN|apply IsS92.drew|apply IsS92.set_1|refine IsS92.far ?_ NB0_313.out _|refine IsS92.far ?_ NB0_329.out _|refine IsS92.far ?_ NB0_335.out _)|exact HI0.out)⟩
        have n6_:Aside0 (KeepBut w (w68.setCell ⟨gb329,4,none⟩ (.int .i64 t342)) g none):=⟨by repeat (first|(with_reducible first|exact HK.out|apply KeepBut.set_|apply keep_drewN|apply keep_drew|apply keep_alloc|refine keep_far ?_ GW313.out _|refine keep_far ?_ GW329.out _|refine keep_far ?_ GW335.out _)|exact HK.out)⟩
        have n7_:Aside0 (Below w0.heap.size w0 (w68.setCell ⟨gb329,4,none⟩ (.int .i64 t342))):=⟨by repeat (first|(with_reducible first|exact HB.out|apply below_alloc|apply pw_below_drewN|apply below_drew1|refine below_set ?_ (IsS92.ge HI0.out)|refine below_set ?_ GE313.out|refine below_set ?_ GE329.out|refine below_set ?_ GE335.out)|exact HB.out)⟩
        (try clear HO_4)
        (try clear HO_330005)
        (try clear BK313)
        (try clear BK329)
        (try clear BK335)
        (try clear HI0)
        (try clear HK)
        (try clear HB)
        generalize (w68.setCell ⟨gb329,4,none⟩ (.int .i64 t342))=w70 at n0_ n1_ n2_ n3_ n4_ n5_ n6_ n7_ ⊢
        have HO_4:=n0_
        have HO_330005:=n1_
        have BK313:=n2_
        have BK329:=n3_
        have BK335:=n4_
        have HI0:=n5_
        have HK:=n6_
        have HB:=n7_
        clear n0_ n1_ n2_ n3_ n4_ n5_ n6_ n7_
        have n0_:=Aside0.mk (Kd.R_drew HO_4.out)
        have n1_:=Aside0.mk (Kd.N_drew HO_330005.out)
        have n2_:=Aside0.mk (blk_drew BK313.out)
        have n3_:=Aside0.mk (blk_drew BK329.out)
        have n4_:=Aside0.mk (blk_drew BK335.out)
        have n5_:=Aside0.mk (IsS92.drew HI0.out)
        have n6_:=Aside0.mk (keep_drew HK.out)
        have n7_:=Aside0.mk (below_drew1 HB.out)
        clear HO_4
        clear HO_330005
        clear BK313
        clear BK329
        clear BK335
        clear HI0
        clear HK
        clear HB
        have HO_4:=n0_
        have HO_330005:=n1_
        have BK313:=n2_
        have BK329:=n3_
        have BK335:=n4_
        have HI0:=n5_
        have HK:=n6_
        have HB:=n7_
        clear n0_ n1_ n2_ n3_ n4_ n5_ n6_ n7_
        refine start_ (n:=4) (S:=fun w'=>w'.cell? ⟨gb329,0,none⟩=some (.bool t320)∧w'.cell? ⟨gb329,1,none⟩=some (.bool t321)∧w'.cell? ⟨gb329,2,none⟩=some (.int .i64 ((rd_T39 t314 t332).f0))∧w'.cell? ⟨gb329,3,none⟩=some (.int .i64 ji52)∧w'.cell? ⟨gb329,4,none⟩=some (.int .i64 t342)∧w'.cell? ⟨gb329,5,none⟩=some (.slice Ao14 t325.length co14)) (ds:=[]) #[false,false,false,false] (by kernel_rfl) rfl rfl ⟨(blk_cell BK329.out 0).trans rfl,(blk_cell BK329.out 1).trans rfl,(blk_cell BK329.out 2).trans rfl,(blk_cell BK329.out 3).trans rfl,(blk_cell BK329.out 4).trans rfl,(blk_cell BK329.out 5).trans rfl⟩ (fun hHeld=>?_)
        generalize w70.drew=w71 at HO_4 HO_330005 BK313 BK329 BK335 HI0 HK HB hHeld ⊢
        refine pure_ (i:=0) (N:=some 62) (v:=?_) (a':=?_) #[true,false,false,false] rfl rfl (by kernel_rfl) (fun _ _ _ h=>h) (Or.inl ⟨by rfl,?_⟩) ?_ ?_
        rotate_left
        ·intro w'
         go_simp
         with_reducible rfl
        rotate_left
        ·simp only [Act.put,setIfInBounds_toArray,set_cons_zero,set_cons_succ,i64_w,i32_w]
         rfl
        refine pure_ (i:=2) (N:=some 2) (v:=?_) (a':=?_) #[true,false,true,false] rfl rfl (by kernel_rfl) (fun _ _ _ h=>h) (Or.inl ⟨by rfl,?_⟩) ?_ ?_
        rotate_left
        ·intro w'
         go_simp
         with_reducible rfl
        rotate_left
        ·simp only [Act.put,setIfInBounds_toArray,set_cons_zero,set_cons_succ,i64_w,i32_w]
         rfl
        refine take_ (i:=1) (N:=some 63) (v:=?_) (a':=?_) #[true,true,true,false] rfl rfl (by kernel_rfl) (fun _ _ _ h=>h) (Or.inl ⟨by rfl,?_⟩) hHeld ?_ ?_
        rotate_left
        ·rintro w' ⟨s0,s1,s2,s3,s4,s5⟩
         go_simp
         with_reducible rfl
        rotate_left
        ·simp only [Act.put,setIfInBounds_toArray,set_cons_zero,set_cons_succ,i64_w,i32_w]
         rfl
        refine one_ (i:=3) (N:=none) #[true,true,true,true] rfl rfl (by kernel_rfl) (by decide) (fun K hK=>?_)
        have hs72:w71.cell? ⟨gb313,0,none⟩=some (.bool false):=(blk_cell BK313.out 0).trans rfl
        have hfs72:=blk_frozen BK313.out 0
        have hns72_1:=NB329_313.out
        have hns72_2:=NB335_313.out
        have hms72_1:=NB313_329.out
        have hms72_2:=NB313_335.out
        have hs73:w71.cell? ⟨gb313,1,none⟩=some (.bool false):=(blk_cell BK313.out 1).trans rfl
        have hfs73:=blk_frozen BK313.out 1
        have hns73_1:=NB329_313.out
        have hns73_2:=NB335_313.out
        have hms73_1:=NB313_329.out
        have hms73_2:=NB313_335.out
        have hs74:w71.cell? ⟨gb313,2,none⟩=some (.int .i64 0):=(blk_cell BK313.out 2).trans rfl
        have hfs74:=blk_frozen BK313.out 2
        have hns74_1:=NB329_313.out
        have hns74_2:=NB335_313.out
        have hms74_1:=NB313_329.out
        have hms74_2:=NB313_335.out
        have hs75:w71.cell? ⟨gb313,3,none⟩=some (.int .i64 0):=(blk_cell BK313.out 3).trans rfl
        have hfs75:=blk_frozen BK313.out 3
        have hns75_1:=NB329_313.out
        have hns75_2:=NB335_313.out
        have hms75_1:=NB313_329.out
        have hms75_2:=NB313_335.out
        have hs76:w71.cell? ⟨gb313,4,none⟩=some (.int .i64 0):=(blk_cell BK313.out 4).trans rfl
        have hfs76:=blk_frozen BK313.out 4
        have hns76_1:=NB329_313.out
        have hns76_2:=NB335_313.out
        have hms76_1:=NB313_329.out
        have hms76_2:=NB313_335.out
        have hs77:w71.cell? ⟨gb313,5,none⟩=some (.slice none 0 0):=(blk_cell BK313.out 5).trans rfl
        have hfs77:=blk_frozen BK313.out 5
        have hns77_1:=NB329_313.out
        have hns77_2:=NB335_313.out
        have hms77_1:=NB313_329.out
        have hms77_2:=NB313_335.out
        refine skip_ (w1:=?_) (by rfl) rfl ?_ ?_
        rotate_left
        ·go_simp
         rfl
        refine hK.out _ _ ⟨((cell_far (p:=⟨gb313,_,none⟩) NB329_313.out _).trans (((cell_far (p:=⟨gb313,_,none⟩) NB329_313.out _).trans (((cell_far (p:=⟨gb313,_,none⟩) NB329_313.out _).trans (((cell_far (p:=⟨gb313,_,none⟩) NB329_313.out _).trans (((cell_far (p:=⟨gb313,_,none⟩) NB329_313.out _).trans (((cell_far (p:=⟨gb313,_,none⟩) NB329_313.out _).trans (hHeld.1)))))))))))),((cell_far (p:=⟨gb313,_,none⟩) NB329_313.out _).trans (((cell_far (p:=⟨gb313,_,none⟩) NB329_313.out _).trans (((cell_far (p:=⟨gb313,_,none⟩) NB329_313.out _).trans (((cell_far (p:=⟨gb313,_,none⟩) NB329_313.out _).trans (((cell_far (p:=⟨gb313,_,none⟩) NB329_313.out _).trans (((cell_far (p:=⟨gb313,_,none⟩) NB329_313.out _).trans (hHeld.2.1)))))))))))),((cell_far (p:=⟨gb313,_,none⟩) NB329_313.out _).trans (((cell_far (p:=⟨gb313,_,none⟩) NB329_313.out _).trans (((cell_far (p:=⟨gb313,_,none⟩) NB329_313.out _).trans (((cell_far (p:=⟨gb313,_,none⟩) NB329_313.out _).trans (((cell_far (p:=⟨gb313,_,none⟩) NB329_313.out _).trans (((cell_far (p:=⟨gb313,_,none⟩) NB329_313.out _).trans (hHeld.2.2.1)))))))))))),((cell_far (p:=⟨gb313,_,none⟩) NB329_313.out _).trans (((cell_far (p:=⟨gb313,_,none⟩) NB329_313.out _).trans (((cell_far (p:=⟨gb313,_,none⟩) NB329_313.out _).trans (((cell_far (p:=⟨gb313,_,none⟩) NB329_313.out _).trans (((cell_far (p:=⟨gb313,_,none⟩) NB329_313.out _).trans (((cell_far (p:=⟨gb313,_,none⟩) NB329_313.out _).trans (hHeld.2.2.2.1)))))))))))),((cell_far (p:=⟨gb313,_,none⟩) NB329_313.out _).trans (((cell_far (p:=⟨gb313,_,none⟩) NB329_313.out _).trans (((cell_far (p:=⟨gb313,_,none⟩) NB329_313.out _).trans (((cell_far (p:=⟨gb313,_,none⟩) NB329_313.out _).trans (((cell_far (p:=⟨gb313,_,none⟩) NB329_313.out _).trans (((cell_far (p:=⟨gb313,_,none⟩) NB329_313.out _).trans (hHeld.2.2.2.2.1)))))))))))),((cell_far (p:=⟨gb313,_,none⟩) NB329_313.out _).trans (((cell_far (p:=⟨gb313,_,none⟩) NB329_313.out _).trans (((cell_far (p:=⟨gb313,_,none⟩) NB329_313.out _).trans (((cell_far (p:=⟨gb313,_,none⟩) NB329_313.out _).trans (((cell_far (p:=⟨gb313,_,none⟩) NB329_313.out _).trans (((cell_far (p:=⟨gb313,_,none⟩) NB329_313.out _).trans (hHeld.2.2.2.2.2))))))))))))⟩ (fun hHeld=>?_)
        clear hK K
        refine done_ (by kernel_rfl) ?_
        try go_wp2
        refine bodyPost_ret (results_tc rfl _ _ gb313 34 #[.bool t320,.bool t321,.int .i64 ((rd_T39 t314 t332).f0),.int .i64 ji52,.int .i64 t342,.slice Ao14 t325.length co14] (0,0) _ rfl (by (with_reducible repeat (first|refine blk_drewN ?_ _|refine blk_drew ?_|refine blk_alloc ?_ _));refine blk_put (cs:=#[.bool t320,.bool t321,.int .i64 ((rd_T39 t314 t332).f0),.int .i64 ji52,.int .i64 t342,.slice none 0 0]) ?_ 5 _ rfl;(with_reducible repeat (first|refine blk_drewN ?_ _|refine blk_drew ?_|refine blk_alloc ?_ _));refine blk_put (cs:=#[.bool t320,.bool t321,.int .i64 ((rd_T39 t314 t332).f0),.int .i64 ji52,.int .i64 0,.slice none 0 0]) ?_ 4 _ rfl;(with_reducible repeat (first|refine blk_drewN ?_ _|refine blk_drew ?_|refine blk_alloc ?_ _));refine blk_put (cs:=#[.bool t320,.bool t321,.int .i64 ((rd_T39 t314 t332).f0),.int .i64 0,.int .i64 0,.slice none 0 0]) ?_ 3 _ rfl;(with_reducible repeat (first|refine blk_drewN ?_ _|refine blk_drew ?_|refine blk_alloc ?_ _));refine blk_put (cs:=#[.bool t320,.bool t321,.int .i64 0,.int .i64 0,.int .i64 0,.slice none 0 0]) ?_ 2 _ rfl;(with_reducible repeat (first|refine blk_drewN ?_ _|refine blk_drew ?_|refine blk_alloc ?_ _));refine blk_put (cs:=#[.bool t320,.bool false,.int .i64 0,.int .i64 0,.int .i64 0,.slice none 0 0]) ?_ 1 _ rfl;(with_reducible repeat (first|refine blk_drewN ?_ _|refine blk_drew ?_|refine blk_alloc ?_ _));refine blk_put (cs:=#[.bool false,.bool false,.int .i64 0,.int .i64 0,.int .i64 0,.slice none 0 0]) ?_ 0 _ rfl;(with_reducible repeat (first|refine blk_drewN ?_ _|refine blk_drew ?_|refine blk_alloc ?_ _));exact BK313.out) Try.underlying34 rfl (by kernel_rfl)) rfl ?_
        exact ⟨_,_,by first|rfl|(simp [errW_none,errW_some] <;> rfl)|(simp only [← hji52];first|rfl|(simp [errW_none,errW_some] <;> rfl))|(simp [*,errW_none,errW_some] <;> rfl),by (with_reducible repeat (first|apply Kd.R_alloc|apply Kd.R_drewN|apply Kd.R_drew));exact Kd.R_mono (Kd.R_far (p:=⟨gb313,5,none⟩) (Kd.R_far (p:=⟨gb313,4,none⟩) (Kd.R_far (p:=⟨gb313,3,none⟩) (Kd.R_far (p:=⟨gb313,2,none⟩) (Kd.R_far (p:=⟨gb313,1,none⟩) (Kd.R_far (p:=⟨gb313,0,none⟩) (Kd.R_types HO_4.out BK313.out (by decide)) (fun _ hk=>hk.2) (.bool t320)) (fun _ hk=>hk.2) (.bool t321)) (fun _ hk=>hk.2) (.int .i64 ((rd_T39 t314 t332).f0))) (fun _ hk=>hk.2) (.int .i64 ji52)) (fun _ hk=>hk.2) (.int .i64 t342)) (fun _ hk=>hk.2) (.slice Ao14 t325.length co14)) (fun _ hk=>hk.1.1),by (with_reducible repeat (first|apply Kd.N_alloc|apply Kd.N_drewN|apply Kd.N_drew));exact Kd.N_mono (Kd.N_far (p:=⟨gb313,5,none⟩) (Kd.N_far (p:=⟨gb313,4,none⟩) (Kd.N_far (p:=⟨gb313,3,none⟩) (Kd.N_far (p:=⟨gb313,2,none⟩) (Kd.N_far (p:=⟨gb313,1,none⟩) (Kd.N_far (p:=⟨gb313,0,none⟩) (Kd.N_mono HO_330005.out (fun k_ hk=>(⟨hk,hk.2.2.1⟩:_∧k_ ≠ gb313))) (fun _ hk=>hk.2) (.bool t320)) (fun _ hk=>hk.2) (.bool t321)) (fun _ hk=>hk.2) (.int .i64 ((rd_T39 t314 t332).f0))) (fun _ hk=>hk.2) (.int .i64 ji52)) (fun _ hk=>hk.2) (.int .i64 t342)) (fun _ hk=>hk.2) (.slice Ao14 t325.length co14)) (fun _ hk=>⟨hk.1.1,hk.1.2.1⟩),by repeat (first|(with_reducible first|exact HI0.out|apply IsS92.alloc|apply IsS92.drewN|apply IsS92.drew|apply IsS92.set_1|refine IsS92.far ?_ NB0_313.out _|refine IsS92.far ?_ NB0_329.out _|refine IsS92.far ?_ NB0_335.out _)|exact HI0.out),by repeat (first|(with_reducible first|exact HB.out|apply below_alloc|apply pw_below_drewN|apply below_drew1|refine below_set ?_ (IsS92.ge HI0.out)|refine below_set ?_ GE313.out|refine below_set ?_ GE329.out|refine below_set ?_ GE335.out)|exact HB.out),by repeat (first|(with_reducible first|exact HK.out|apply KeepBut.set_|apply keep_drewN|apply keep_drew|apply keep_alloc|refine keep_far ?_ GW313.out _|refine keep_far ?_ GW329.out _|refine keep_far ?_ GW335.out _)|exact HK.out)⟩
       ·rw [if_neg c50] at H
        have c50b0:(t336 == 1)=false:=beq_eq_false_iff_ne.mpr c50
        have c50b1:(t336 != 1)=true:=bne_iff_ne.mpr c50
        simp only [Option.some.injEq,Prod.mk.injEq] at H
        obtain ⟨rfl,rfl,rfl,rfl,rfl,rfl,rfl,rfl⟩:=H
        obtain ⟨Ao78,co78,eo78⟩:=Kd.R_slice HO_4.out
        subst eo78
        try go_wp2_with (first|((with_reducible refine gate_callee (f:=67) rfl ?_);refine goesL_ (some 25) rfl rfl Try.func67 (by kernel_rfl) rfl #[.pointer (some ⟨g,0,none⟩),.int .i64 (t314.length:Int)] rfl (by (try simp only [map_toArray,map_cons,map_nil]);first|done|rfl|(simp only [length_drop,length_take];rfl)) ?_;(with_reducible refine (spec_l6Rd_pick.calls kj4 g s0_0 x1001_4 (t314.length:Int) t332 t333 w0 _ ?side1 ?side2 A21.out).mono ?_);(case side1=>repeat (first|(with_reducible first|exact HI0.out|apply IsS92.alloc|apply IsS92.drewN|apply IsS92.drew|apply IsS92.set_1|refine IsS92.far ?_ NB0_313.out _|refine IsS92.far ?_ NB0_329.out _)|exact HI0.out));(case side2=>repeat (first|(with_reducible first|exact HB.out|apply below_alloc|apply pw_below_drewN|apply below_drew1|refine below_set ?_ (IsS92.ge HI0.out)|refine below_set ?_ GE313.out|refine below_set ?_ GE329.out)|exact HB.out));rintro e w79 ⟨rfl,hi,hb,hk⟩;refine ⟨_,rfl,?_⟩;have n0_:=Aside0.mk (Kd.R_mono (Kd.R_keep (IsS92.apart (show IsS92 w0 _ g s0_0 x1001_4 from by repeat (first|(with_reducible first|exact HI0.out|apply IsS92.alloc|apply IsS92.drewN|apply IsS92.drew|apply IsS92.set_1|refine IsS92.far ?_ NB0_313.out _|refine IsS92.far ?_ NB0_329.out _)|exact HI0.out)) (by (with_reducible repeat (first|apply Kd.R_alloc|apply Kd.R_drewN|apply Kd.R_drew));exact HO_4.out) (by decide)) hk (fun _ h=>h.2)) (fun _ h=>h.1));have n1_:=Aside0.mk (Kd.N_mono (Kd.N_keep (Kd.N_mono (ok:=fun k_=>(((w.heap.size ≤ k_))∧(some k_ ≠ (.slice Ao78 t314.length co78:Value).ownBlock∧(k_ ≠ gb313∧(k_ ≠ gb329∧k_ ≠ g))))) (by (with_reducible repeat (first|apply Kd.N_alloc|apply Kd.N_drewN|apply Kd.N_drew));exact HO_330005.out) (fun k_ hk_=>(⟨hk_,hk_.2.2.2.2⟩:_∧k_ ≠ g))) hk (fun _ h=>h.2)) (fun _ h=>h.1));have n2_:=Aside0.mk (KeepBut.blk hk (g':=gb313) (o:=.cells #[.bool false,.bool false,.int .i64 0,.int .i64 0,.int .i64 0,.slice none 0 0] 34 (0,0)) (by (with_reducible repeat (first|refine blk_drewN ?_ _|refine blk_drew ?_|refine blk_alloc ?_ _));exact BK313.out) NB313_0.out (by simp));have n3_:=Aside0.mk (KeepBut.blk hk (g':=gb329) (o:=.cells #[.bool t320,.bool t321,.int .i64 t322,.int .i64 t323,.int .i64 t324,.slice Ao14 t325.length co14] 34 (0,0)) (by (with_reducible repeat (first|refine blk_drewN ?_ _|refine blk_drew ?_|refine blk_alloc ?_ _));exact BK329.out) NB329_0.out (by simp));have n4_:=Aside0.mk (KeepBut.trans (by repeat (first|(with_reducible first|exact HK.out|apply KeepBut.set_|apply keep_drewN|apply keep_drew|apply keep_alloc|refine keep_far ?_ GW313.out _|refine keep_far ?_ GW329.out _)|exact HK.out)) hk (.inl rfl));have n5_:=Aside0.mk (hb);have n6_:=Aside0.mk (hi);clear HO_4 HO_330005 BK313 BK329 HK HB HI0;have HO_4:=n0_;have HO_330005:=n1_;have BK313:=n2_;have BK329:=n3_;have HK:=n4_;have HB:=n5_;have HI0:=n6_;clear n0_ n1_ n2_ n3_ n4_ n5_ n6_;(try clear hb);(try clear hb2);(try clear hk);(try clear hi);have p334 : 0 ≤ (t332:Int):=of_decide_eq_true (by first|(with_reducible assumption)|assumption);have q334:t332 < (t314.length:Int):=of_decide_eq_true (by first|(with_reducible assumption)|assumption);obtain ⟨ad334,e334,hx334_0,hx334_1,hx334_2⟩:=at_T39 (Kd.R_reads' HO_4.out).2.2 t332 p334 q334;cases e334;replace p334:=eq_true p334;replace q334:=eq_true q334)|((with_reducible refine gate_dst (N:=6) rfl ?_);refine box_event ?hg (N:=6) ?hd (cs:=#[.int .i64 0,.int .i64 0,.int .i64 0]) (t:=39) ?hr ?_;(case hd=>rfl);(case hg=>rfl);(case hr=>first|(go_simp;done)|(go_simp;rfl));intro gb335 hg w80 hbox hb;have n0_:=Aside0.mk (Kd.R_below (Kd.R_elderB (by (with_reducible repeat (first|apply Kd.R_alloc|apply Kd.R_drewN|apply Kd.R_drew));exact HO_4.out) gb335 (Nat.le_of_eq hg.symm)) hb);have n1_:=Aside0.mk (Kd.N_below (Kd.N_elderB (by (with_reducible repeat (first|apply Kd.N_alloc|apply Kd.N_drewN|apply Kd.N_drew));exact HO_330005.out) gb335 (Nat.le_of_eq hg.symm)) hb);have n2_:=Aside0.mk (blk_below (g:=gb313) (o:=.cells #[.bool false,.bool false,.int .i64 0,.int .i64 0,.int .i64 0,.slice none 0 0] 34 (0,0)) (by (with_reducible repeat (first|refine blk_drewN ?_ _|refine blk_drew ?_|refine blk_alloc ?_ _));exact BK313.out) hb);have n3_:=Aside0.mk (blk_below (g:=gb329) (o:=.cells #[.bool t320,.bool t321,.int .i64 t322,.int .i64 t323,.int .i64 t324,.slice Ao14 t325.length co14] 34 (0,0)) (by (with_reducible repeat (first|refine blk_drewN ?_ _|refine blk_drew ?_|refine blk_alloc ?_ _));exact BK329.out) hb);have n4_:=Aside0.mk (IsS92.below (by repeat (first|(with_reducible first|exact HI0.out|apply IsS92.alloc|apply IsS92.drewN|apply IsS92.drew|apply IsS92.set_1|refine IsS92.far ?_ NB0_313.out _|refine IsS92.far ?_ NB0_329.out _)|exact HI0.out)) hb);have n5_:=Aside0.mk (KeepBut.trans (by repeat (first|(with_reducible first|exact HK.out|apply KeepBut.set_|apply keep_drewN|apply keep_drew|apply keep_alloc|refine keep_far ?_ GW313.out _|refine keep_far ?_ GW329.out _)|exact HK.out)) (KeepBut.of_below hb g none) (.inl rfl));have n6_:=Aside0.mk (below_step (by repeat (first|(with_reducible first|exact HB.out|apply below_alloc|apply pw_below_drewN|apply below_drew1|refine below_set ?_ (IsS92.ge HI0.out)|refine below_set ?_ GE313.out|refine below_set ?_ GE329.out)|exact HB.out)) hb);have n7_:=Aside0.mk (hbox);have n8_:=Aside0.mk ((by rw [hg];exact (keep_size (w:=w) (g:=g) (row:=none) (by repeat (first|(with_reducible first|exact HK.out|apply KeepBut.set_|apply keep_drewN|apply keep_drew|apply keep_alloc|refine keep_far ?_ GW313.out _|refine keep_far ?_ GW329.out _)|exact HK.out))):w.heap.size ≤ gb335));have n9_:=Aside0.mk ((Nat.le_trans HW0.out (by rw [hg];exact (keep_size (w:=w) (g:=g) (row:=none) (by repeat (first|(with_reducible first|exact HK.out|apply KeepBut.set_|apply keep_drewN|apply keep_drew|apply keep_alloc|refine keep_far ?_ GW313.out _|refine keep_far ?_ GW329.out _)|exact HK.out))):w.heap.size ≤ gb335):w0.heap.size ≤ gb335));have n10_:=Aside0.mk ((by rw [hg];exact Nat.ne_of_lt (blk_lt (g:=gb313) (o:=.cells #[.bool false,.bool false,.int .i64 0,.int .i64 0,.int .i64 0,.slice none 0 0] 34 (0,0)) (by (with_reducible repeat (first|refine blk_drewN ?_ _|refine blk_drew ?_|refine blk_alloc ?_ _));exact BK313.out)):gb313 ≠ gb335));have n11_:=Aside0.mk ((by rw [hg];exact Nat.ne_of_gt (blk_lt (g:=gb313) (o:=.cells #[.bool false,.bool false,.int .i64 0,.int .i64 0,.int .i64 0,.slice none 0 0] 34 (0,0)) (by (with_reducible repeat (first|refine blk_drewN ?_ _|refine blk_drew ?_|refine blk_alloc ?_ _));exact BK313.out)):gb335 ≠ gb313));have n12_:=Aside0.mk ((by rw [hg];exact Nat.ne_of_lt (blk_lt (g:=gb329) (o:=.cells #[.bool t320,.bool t321,.int .i64 t322,.int .i64 t323,.int .i64 t324,.slice Ao14 t325.length co14] 34 (0,0)) (by (with_reducible repeat (first|refine blk_drewN ?_ _|refine blk_drew ?_|refine blk_alloc ?_ _));exact BK329.out)):gb329 ≠ gb335));have n13_:=Aside0.mk ((by rw [hg];exact Nat.ne_of_gt (blk_lt (g:=gb329) (o:=.cells #[.bool t320,.bool t321,.int .i64 t322,.int .i64 t323,.int .i64 t324,.slice Ao14 t325.length co14] 34 (0,0)) (by (with_reducible repeat (first|refine blk_drewN ?_ _|refine blk_drew ?_|refine blk_alloc ?_ _));exact BK329.out)):gb335 ≠ gb329));have n14_:=Aside0.mk ((by rw [hg];exact Nat.ne_of_lt (IsS92.lt (show IsS92 w0 _ g s0_0 t333 from by repeat (first|(with_reducible first|exact HI0.out|apply IsS92.alloc|apply IsS92.drewN|apply IsS92.drew|apply IsS92.set_1|refine IsS92.far ?_ NB0_313.out _|refine IsS92.far ?_ NB0_329.out _)|exact HI0.out))):g ≠ gb335));have n15_:=Aside0.mk ((by rw [hg];exact Nat.ne_of_gt (IsS92.lt (show IsS92 w0 _ g s0_0 t333 from by repeat (first|(with_reducible first|exact HI0.out|apply IsS92.alloc|apply IsS92.drewN|apply IsS92.drew|apply IsS92.set_1|refine IsS92.far ?_ NB0_313.out _|refine IsS92.far ?_ NB0_329.out _)|exact HI0.out))):gb335 ≠ g));clear HO_4 HO_330005 BK313 BK329 HI0 HK HB;have HO_4:=n0_;have HO_330005:=n1_;have BK313:=n2_;have BK329:=n3_;have HI0:=n4_;have HK:=n5_;have HB:=n6_;have BK335:=n7_;have GW335:=n8_;have GE335:=n9_;have NB313_335:=n10_;have NB335_313:=n11_;have NB329_335:=n12_;have NB335_329:=n13_;have NB0_335:=n14_;have NB335_0:=n15_;clear n0_ n1_ n2_ n3_ n4_ n5_ n6_ n7_ n8_ n9_ n10_ n11_ n12_ n13_ n14_ n15_;clear hb hbox hg;have hnb81:=NB335_313.out;have hnc81:=NB313_335.out;have hnb82:=NB335_329.out;have hnc82:=NB329_335.out;have hnb83:=NB335_0.out;have hnc83:=NB0_335.out;have hcz84_0:w80.cell? ⟨gb335,0,none⟩=some (.int .i64 0):=(blk_cell BK335.out 0).trans rfl;have hcz84_1:w80.cell? ⟨gb335,1,none⟩=some (.int .i64 0):=(blk_cell BK335.out 1).trans rfl;have hcz84_2:w80.cell? ⟨gb335,2,none⟩=some (.int .i64 0):=(blk_cell BK335.out 2).trans rfl;have hfz84_0:=blk_frozen BK335.out 0;have hfz84_1:=blk_frozen BK335.out 1;have hfz84_2:=blk_frozen BK335.out 2;have hnb85:=NB329_313.out;have hnc85:=NB313_329.out;have hnb86:=NB329_0.out;have hnc86:=NB0_329.out;have hcz87_0:w80.cell? ⟨gb329,0,none⟩=some (.bool t320):=(blk_cell BK329.out 0).trans rfl;have hcz87_1:w80.cell? ⟨gb329,1,none⟩=some (.bool t321):=(blk_cell BK329.out 1).trans rfl;have hcz87_2:w80.cell? ⟨gb329,2,none⟩=some (.int .i64 t322):=(blk_cell BK329.out 2).trans rfl;have hcz87_3:w80.cell? ⟨gb329,3,none⟩=some (.int .i64 t323):=(blk_cell BK329.out 3).trans rfl;have hcz87_4:w80.cell? ⟨gb329,4,none⟩=some (.int .i64 t324):=(blk_cell BK329.out 4).trans rfl;have hcz87_5:w80.cell? ⟨gb329,5,none⟩=some (.slice Ao14 t325.length co14):=(blk_cell BK329.out 5).trans rfl;have hfz87_0:=blk_frozen BK329.out 0;have hfz87_1:=blk_frozen BK329.out 1;have hfz87_2:=blk_frozen BK329.out 2;have hfz87_3:=blk_frozen BK329.out 3;have hfz87_4:=blk_frozen BK329.out 4;have hfz87_5:=blk_frozen BK329.out 5)|((with_reducible refine gate_callee (f:=67) rfl ?_);refine goesL_ (some 38) rfl rfl Try.func67 (by kernel_rfl) rfl #[.pointer (some ⟨g,0,none⟩),.int .i64 6] rfl (by (try simp only [map_toArray,map_cons,map_nil]);first|done|rfl|(simp only [length_drop,length_take];rfl)) ?_;(with_reducible refine (spec_l6Rd_pick.calls kj4 g s0_0 t333 6 t336 t337 w0 _ ?side1 ?side2 A24.out).mono ?_);(case side1=>repeat (first|(with_reducible first|exact HI0.out|apply IsS92.alloc|apply IsS92.drewN|apply IsS92.drew|apply IsS92.set_1|refine IsS92.far ?_ NB0_313.out _|refine IsS92.far ?_ NB0_329.out _|refine IsS92.far ?_ NB0_335.out _)|exact HI0.out));(case side2=>repeat (first|(with_reducible first|exact HB.out|apply below_alloc|apply pw_below_drewN|apply below_drew1|refine below_set ?_ (IsS92.ge HI0.out)|refine below_set ?_ GE313.out|refine below_set ?_ GE329.out|refine below_set ?_ GE335.out)|exact HB.out));rintro e w88 ⟨rfl,hi,hb,hk⟩;refine ⟨_,rfl,?_⟩;have n0_:=Aside0.mk (Kd.R_mono (Kd.R_keep (IsS92.apart (show IsS92 w0 _ g s0_0 t333 from by repeat (first|(with_reducible first|exact HI0.out|apply IsS92.alloc|apply IsS92.drewN|apply IsS92.drew|apply IsS92.set_1|refine IsS92.far ?_ NB0_313.out _|refine IsS92.far ?_ NB0_329.out _|refine IsS92.far ?_ NB0_335.out _)|exact HI0.out)) (by (with_reducible repeat (first|apply Kd.R_alloc|apply Kd.R_drewN|apply Kd.R_drew));exact (Kd.R_mono (Kd.R_mono (Kd.R_far (p:=⟨gb329,4,none⟩) (Kd.R_far (p:=⟨gb329,3,none⟩) (Kd.R_far (p:=⟨gb329,2,none⟩) (Kd.R_far (p:=⟨gb335,2,none⟩) (Kd.R_far (p:=⟨gb335,1,none⟩) (Kd.R_far (p:=⟨gb335,0,none⟩) (Kd.R_types (Kd.R_mono HO_4.out (fun k_ hk=>(⟨hk,hk.2⟩:_∧k_ ≠ gb335))) BK329.out (by decide)) (fun _ hk=>hk.1.2) (.int .i64 ((rd_T39 t314 t332).f0))) (fun _ hk=>hk.1.2) (.int .i64 ((rd_T39 t314 t332).f1))) (fun _ hk=>hk.1.2) (.int .i64 ((rd_T39 t314 t332).f2))) (fun _ hk=>hk.2) (.int .i64 ((rd_T39 t314 t332).f0))) (fun _ hk=>hk.2) (.int .i64 ((rd_T39 t314 t332).f1))) (fun _ hk=>hk.2) (.int .i64 ((rd_T39 t314 t332).f2))) (fun _ h_=>h_.1)) (fun _ h_=>h_.1))) (by decide)) hk (fun _ h=>h.2)) (fun _ h=>h.1));have n1_:=Aside0.mk (Kd.N_mono (Kd.N_keep (Kd.N_mono (ok:=fun k_=>((((w.heap.size ≤ k_))∧(some k_ ≠ (.slice (some ad334) t314.length co78:Value).ownBlock∧(k_ ≠ gb313∧(k_ ≠ gb329∧k_ ≠ g))))∧k_ ≠ gb335)) (by (with_reducible repeat (first|apply Kd.N_alloc|apply Kd.N_drewN|apply Kd.N_drew));exact (Kd.N_mono (Kd.N_mono (Kd.N_far (p:=⟨gb329,4,none⟩) (Kd.N_far (p:=⟨gb329,3,none⟩) (Kd.N_far (p:=⟨gb329,2,none⟩) (Kd.N_far (p:=⟨gb335,2,none⟩) (Kd.N_far (p:=⟨gb335,1,none⟩) (Kd.N_far (p:=⟨gb335,0,none⟩) (Kd.N_mono (Kd.N_mono HO_330005.out (fun k_ hk=>(⟨hk,hk.2⟩:_∧k_ ≠ gb335))) (fun k_ hk=>(⟨hk,hk.1.1.2.2.2.1⟩:_∧k_ ≠ gb329))) (fun _ hk=>hk.1.2) (.int .i64 ((rd_T39 t314 t332).f0))) (fun _ hk=>hk.1.2) (.int .i64 ((rd_T39 t314 t332).f1))) (fun _ hk=>hk.1.2) (.int .i64 ((rd_T39 t314 t332).f2))) (fun _ hk=>hk.2) (.int .i64 ((rd_T39 t314 t332).f0))) (fun _ hk=>hk.2) (.int .i64 ((rd_T39 t314 t332).f1))) (fun _ hk=>hk.2) (.int .i64 ((rd_T39 t314 t332).f2))) (fun _ h_=>h_.1)) (fun _ h_=>h_.1))) (fun k_ hk_=>(⟨hk_,hk_.1.2.2.2.2⟩:_∧k_ ≠ g))) hk (fun _ h=>h.2)) (fun _ h=>h.1));have n2_:=Aside0.mk (KeepBut.blk hk (g':=gb313) (o:=.cells #[.bool false,.bool false,.int .i64 0,.int .i64 0,.int .i64 0,.slice none 0 0] 34 (0,0)) (by (with_reducible repeat (first|refine blk_drewN ?_ _|refine blk_drew ?_|refine blk_alloc ?_ _));refine blk_far ?_ NB313_329.out _;(with_reducible repeat (first|refine blk_drewN ?_ _|refine blk_drew ?_|refine blk_alloc ?_ _));refine blk_far ?_ NB313_329.out _;(with_reducible repeat (first|refine blk_drewN ?_ _|refine blk_drew ?_|refine blk_alloc ?_ _));refine blk_far ?_ NB313_329.out _;(with_reducible repeat (first|refine blk_drewN ?_ _|refine blk_drew ?_|refine blk_alloc ?_ _));refine blk_far ?_ NB313_335.out _;(with_reducible repeat (first|refine blk_drewN ?_ _|refine blk_drew ?_|refine blk_alloc ?_ _));refine blk_far ?_ NB313_335.out _;(with_reducible repeat (first|refine blk_drewN ?_ _|refine blk_drew ?_|refine blk_alloc ?_ _));refine blk_far ?_ NB313_335.out _;(with_reducible repeat (first|refine blk_drewN ?_ _|refine blk_drew ?_|refine blk_alloc ?_ _));exact BK313.out) NB313_0.out (by simp));have n3_:=Aside0.mk (KeepBut.blk hk (g':=gb329) (o:=.cells #[.bool t320,.bool t321,.int .i64 ((rd_T39 t314 t332).f0),.int .i64 ((rd_T39 t314 t332).f1),.int .i64 ((rd_T39 t314 t332).f2),.slice Ao14 t325.length co14] 34 (0,0)) (by (with_reducible repeat (first|refine blk_drewN ?_ _|refine blk_drew ?_|refine blk_alloc ?_ _));refine blk_put (cs:=#[.bool t320,.bool t321,.int .i64 ((rd_T39 t314 t332).f0),.int .i64 ((rd_T39 t314 t332).f1),.int .i64 t324,.slice Ao14 t325.length co14]) ?_ 4 _ rfl;(with_reducible repeat (first|refine blk_drewN ?_ _|refine blk_drew ?_|refine blk_alloc ?_ _));refine blk_put (cs:=#[.bool t320,.bool t321,.int .i64 ((rd_T39 t314 t332).f0),.int .i64 t323,.int .i64 t324,.slice Ao14 t325.length co14]) ?_ 3 _ rfl;(with_reducible repeat (first|refine blk_drewN ?_ _|refine blk_drew ?_|refine blk_alloc ?_ _));refine blk_put (cs:=#[.bool t320,.bool t321,.int .i64 t322,.int .i64 t323,.int .i64 t324,.slice Ao14 t325.length co14]) ?_ 2 _ rfl;(with_reducible repeat (first|refine blk_drewN ?_ _|refine blk_drew ?_|refine blk_alloc ?_ _));refine blk_far ?_ NB329_335.out _;(with_reducible repeat (first|refine blk_drewN ?_ _|refine blk_drew ?_|refine blk_alloc ?_ _));refine blk_far ?_ NB329_335.out _;(with_reducible repeat (first|refine blk_drewN ?_ _|refine blk_drew ?_|refine blk_alloc ?_ _));refine blk_far ?_ NB329_335.out _;(with_reducible repeat (first|refine blk_drewN ?_ _|refine blk_drew ?_|refine blk_alloc ?_ _));exact BK329.out) NB329_0.out (by simp));have n4_:=Aside0.mk (KeepBut.blk hk (g':=gb335) (o:=.cells #[.int .i64 ((rd_T39 t314 t332).f0),.int .i64 ((rd_T39 t314 t332).f1),.int .i64 ((rd_T39 t314 t332).f2)] 39 (0,0)) (by (with_reducible repeat (first|refine blk_drewN ?_ _|refine blk_drew ?_|refine blk_alloc ?_ _));refine blk_far ?_ NB335_329.out _;(with_reducible repeat (first|refine blk_drewN ?_ _|refine blk_drew ?_|refine blk_alloc ?_ _));refine blk_far ?_ NB335_329.out _;(with_reducible repeat (first|refine blk_drewN ?_ _|refine blk_drew ?_|refine blk_alloc ?_ _));refine blk_far ?_ NB335_329.out _;(with_reducible repeat (first|refine blk_drewN ?_ _|refine blk_drew ?_|refine blk_alloc ?_ _));refine blk_put (cs:=#[.int .i64 ((rd_T39 t314 t332).f0),.int .i64 ((rd_T39 t314 t332).f1),.int .i64 0]) ?_ 2 _ rfl;(with_reducible repeat (first|refine blk_drewN ?_ _|refine blk_drew ?_|refine blk_alloc ?_ _));refine blk_put (cs:=#[.int .i64 ((rd_T39 t314 t332).f0),.int .i64 0,.int .i64 0]) ?_ 1 _ rfl;(with_reducible repeat (first|refine blk_drewN ?_ _|refine blk_drew ?_|refine blk_alloc ?_ _));refine blk_put (cs:=#[.int .i64 0,.int .i64 0,.int .i64 0]) ?_ 0 _ rfl;(with_reducible repeat (first|refine blk_drewN ?_ _|refine blk_drew ?_|refine blk_alloc ?_ _));exact BK335.out) NB335_0.out (by simp));have n5_:=Aside0.mk (KeepBut.trans (by repeat (first|(with_reducible first|exact HK.out|apply KeepBut.set_|apply keep_drewN|apply keep_drew|apply keep_alloc|refine keep_far ?_ GW313.out _|refine keep_far ?_ GW329.out _|refine keep_far ?_ GW335.out _)|exact HK.out)) hk (.inl rfl));have n6_:=Aside0.mk (hb);have n7_:=Aside0.mk (hi);clear HO_4 HO_330005 BK313 BK329 BK335 HK HB HI0;have HO_4:=n0_;have HO_330005:=n1_;have BK313:=n2_;have BK329:=n3_;have BK335:=n4_;have HK:=n5_;have HB:=n6_;have HI0:=n7_;clear n0_ n1_ n2_ n3_ n4_ n5_ n6_ n7_;(try clear hb);(try clear hb2);(try clear hk);(try clear hi)))
        have n0_:=Aside0.mk (Kd.R_drew HO_4.out)
        have n1_:=Aside0.mk (Kd.N_drew HO_330005.out)
        have n2_:=Aside0.mk (blk_drew BK313.out)
        have n3_:=Aside0.mk (blk_drew BK329.out)
        have n4_:=Aside0.mk (blk_drew BK335.out)
        have n5_:=Aside0.mk (IsS92.drew HI0.out)
        have n6_:=Aside0.mk (keep_drew HK.out)
        have n7_:=Aside0.mk (below_drew1 HB.out)
        clear HO_4
        clear HO_330005
        clear BK313
        clear BK329
        clear BK335
        clear HI0
        clear HK
        clear HB
        have HO_4:=n0_
        have HO_330005:=n1_
        have BK313:=n2_
        have BK329:=n3_
        have BK335:=n4_
        have HI0:=n5_
        have HK:=n6_
        have HB:=n7_
        clear n0_ n1_ n2_ n3_ n4_ n5_ n6_ n7_
        refine start_ (n:=4) (S:=fun w'=>w'.cell? ⟨gb329,0,none⟩=some (.bool t320)∧w'.cell? ⟨gb329,1,none⟩=some (.bool t321)∧w'.cell? ⟨gb329,2,none⟩=some (.int .i64 ((rd_T39 t314 t332).f0))∧w'.cell? ⟨gb329,3,none⟩=some (.int .i64 ((rd_T39 t314 t332).f1))∧w'.cell? ⟨gb329,4,none⟩=some (.int .i64 ((rd_T39 t314 t332).f2))∧w'.cell? ⟨gb329,5,none⟩=some (.slice Ao14 t325.length co14)) (ds:=[]) #[false,false,false,false] (by kernel_rfl) rfl rfl ⟨(blk_cell BK329.out 0).trans rfl,(blk_cell BK329.out 1).trans rfl,(blk_cell BK329.out 2).trans rfl,(blk_cell BK329.out 3).trans rfl,(blk_cell BK329.out 4).trans rfl,(blk_cell BK329.out 5).trans rfl⟩ (fun hHeld=>?_)
        generalize w88.drew=w89 at HO_4 HO_330005 BK313 BK329 BK335 HI0 HK HB hHeld ⊢
        refine pure_ (i:=0) (N:=some 62) (v:=?_) (a':=?_) #[true,false,false,false] rfl rfl (by kernel_rfl) (fun _ _ _ h=>h) (Or.inl ⟨by rfl,?_⟩) ?_ ?_
        rotate_left
        ·intro w'
         go_simp
         with_reducible rfl
        rotate_left
        ·simp only [Act.put,setIfInBounds_toArray,set_cons_zero,set_cons_succ,i64_w,i32_w]
         rfl
        refine pure_ (i:=2) (N:=some 2) (v:=?_) (a':=?_) #[true,false,true,false] rfl rfl (by kernel_rfl) (fun _ _ _ h=>h) (Or.inl ⟨by rfl,?_⟩) ?_ ?_
        rotate_left
        ·intro w'
         go_simp
         with_reducible rfl
        rotate_left
        ·simp only [Act.put,setIfInBounds_toArray,set_cons_zero,set_cons_succ,i64_w,i32_w]
         rfl
        refine take_ (i:=1) (N:=some 63) (v:=?_) (a':=?_) #[true,true,true,false] rfl rfl (by kernel_rfl) (fun _ _ _ h=>h) (Or.inl ⟨by rfl,?_⟩) hHeld ?_ ?_
        rotate_left
        ·rintro w' ⟨s0,s1,s2,s3,s4,s5⟩
         go_simp
         with_reducible rfl
        rotate_left
        ·simp only [Act.put,setIfInBounds_toArray,set_cons_zero,set_cons_succ,i64_w,i32_w]
         rfl
        refine one_ (i:=3) (N:=none) #[true,true,true,true] rfl rfl (by kernel_rfl) (by decide) (fun K hK=>?_)
        have hs90:w89.cell? ⟨gb313,0,none⟩=some (.bool false):=(blk_cell BK313.out 0).trans rfl
        have hfs90:=blk_frozen BK313.out 0
        have hns90_1:=NB329_313.out
        have hns90_2:=NB335_313.out
        have hms90_1:=NB313_329.out
        have hms90_2:=NB313_335.out
        have hs91:w89.cell? ⟨gb313,1,none⟩=some (.bool false):=(blk_cell BK313.out 1).trans rfl
        have hfs91:=blk_frozen BK313.out 1
        have hns91_1:=NB329_313.out
        have hns91_2:=NB335_313.out
        have hms91_1:=NB313_329.out
        have hms91_2:=NB313_335.out
        have hs92:w89.cell? ⟨gb313,2,none⟩=some (.int .i64 0):=(blk_cell BK313.out 2).trans rfl
        have hfs92:=blk_frozen BK313.out 2
        have hns92_1:=NB329_313.out
        have hns92_2:=NB335_313.out
        have hms92_1:=NB313_329.out
        have hms92_2:=NB313_335.out
        have hs93:w89.cell? ⟨gb313,3,none⟩=some (.int .i64 0):=(blk_cell BK313.out 3).trans rfl
        have hfs93:=blk_frozen BK313.out 3
        have hns93_1:=NB329_313.out
        have hns93_2:=NB335_313.out
        have hms93_1:=NB313_329.out
        have hms93_2:=NB313_335.out
        have hs94:w89.cell? ⟨gb313,4,none⟩=some (.int .i64 0):=(blk_cell BK313.out 4).trans rfl
        have hfs94:=blk_frozen BK313.out 4
        have hns94_1:=NB329_313.out
        have hns94_2:=NB335_313.out
        have hms94_1:=NB313_329.out
        have hms94_2:=NB313_335.out
        have hs95:w89.cell? ⟨gb313,5,none⟩=some (.slice none 0 0):=(blk_cell BK313.out 5).trans rfl
        have hfs95:=blk_frozen BK313.out 5
        have hns95_1:=NB329_313.out
        have hns95_2:=NB335_313.out
        have hms95_1:=NB313_329.out
        have hms95_2:=NB313_335.out
        refine skip_ (w1:=?_) (by rfl) rfl ?_ ?_
        rotate_left
        ·go_simp
         rfl
        refine hK.out _ _ ⟨((cell_far (p:=⟨gb313,_,none⟩) NB329_313.out _).trans (((cell_far (p:=⟨gb313,_,none⟩) NB329_313.out _).trans (((cell_far (p:=⟨gb313,_,none⟩) NB329_313.out _).trans (((cell_far (p:=⟨gb313,_,none⟩) NB329_313.out _).trans (((cell_far (p:=⟨gb313,_,none⟩) NB329_313.out _).trans (((cell_far (p:=⟨gb313,_,none⟩) NB329_313.out _).trans (hHeld.1)))))))))))),((cell_far (p:=⟨gb313,_,none⟩) NB329_313.out _).trans (((cell_far (p:=⟨gb313,_,none⟩) NB329_313.out _).trans (((cell_far (p:=⟨gb313,_,none⟩) NB329_313.out _).trans (((cell_far (p:=⟨gb313,_,none⟩) NB329_313.out _).trans (((cell_far (p:=⟨gb313,_,none⟩) NB329_313.out _).trans (((cell_far (p:=⟨gb313,_,none⟩) NB329_313.out _).trans (hHeld.2.1)))))))))))),((cell_far (p:=⟨gb313,_,none⟩) NB329_313.out _).trans (((cell_far (p:=⟨gb313,_,none⟩) NB329_313.out _).trans (((cell_far (p:=⟨gb313,_,none⟩) NB329_313.out _).trans (((cell_far (p:=⟨gb313,_,none⟩) NB329_313.out _).trans (((cell_far (p:=⟨gb313,_,none⟩) NB329_313.out _).trans (((cell_far (p:=⟨gb313,_,none⟩) NB329_313.out _).trans (hHeld.2.2.1)))))))))))),((cell_far (p:=⟨gb313,_,none⟩) NB329_313.out _).trans (((cell_far (p:=⟨gb313,_,none⟩) NB329_313.out _).trans (((cell_far (p:=⟨gb313,_,none⟩) NB329_313.out _).trans (((cell_far (p:=⟨gb313,_,none⟩) NB329_313.out _).trans (((cell_far (p:=⟨gb313,_,none⟩) NB329_313.out _).trans (((cell_far (p:=⟨gb313,_,none⟩) NB329_313.out _).trans (hHeld.2.2.2.1)))))))))))),((cell_far (p:=⟨gb313,_,none⟩) NB329_313.out _).trans (((cell_far (p:=⟨gb313,_,none⟩) NB329_313.out _).trans (((cell_far (p:=⟨gb313,_,none⟩) NB329_313.out _).trans (((cell_far (p:=⟨gb313,_,none⟩) NB329_313.out _).trans (((cell_far (p:=⟨gb313,_,none⟩) NB329_313.out _).trans (((cell_far (p:=⟨gb313,_,none⟩) NB329_313.out _).trans (hHeld.2.2.2.2.1)))))))))))),((cell_far (p:=⟨gb313,_,none⟩) NB329_313.out _).trans (((cell_far (p:=⟨gb313,_,none⟩) NB329_313.out _).trans (((cell_far (p:=⟨gb313,_,none⟩) NB329_313.out _).trans (((cell_far (p:=⟨gb313,_,none⟩) NB329_313.out _).trans (((cell_far (p:=⟨gb313,_,none⟩) NB329_313.out _).trans (((cell_far (p:=⟨gb313,_,none⟩) NB329_313.out _).trans (hHeld.2.2.2.2.2))))))))))))⟩ (fun hHeld=>?_)
        clear hK K
        refine done_ (by kernel_rfl) ?_
        try go_wp2
        refine bodyPost_ret (results_tc rfl _ _ gb313 34 #[.bool t320,.bool t321,.int .i64 ((rd_T39 t314 t332).f0),.int .i64 ((rd_T39 t314 t332).f1),.int .i64 ((rd_T39 t314 t332).f2),.slice Ao14 t325.length co14] (0,0) _ rfl (by (with_reducible repeat (first|refine blk_drewN ?_ _|refine blk_drew ?_|refine blk_alloc ?_ _));refine blk_put (cs:=#[.bool t320,.bool t321,.int .i64 ((rd_T39 t314 t332).f0),.int .i64 ((rd_T39 t314 t332).f1),.int .i64 ((rd_T39 t314 t332).f2),.slice none 0 0]) ?_ 5 _ rfl;(with_reducible repeat (first|refine blk_drewN ?_ _|refine blk_drew ?_|refine blk_alloc ?_ _));refine blk_put (cs:=#[.bool t320,.bool t321,.int .i64 ((rd_T39 t314 t332).f0),.int .i64 ((rd_T39 t314 t332).f1),.int .i64 0,.slice none 0 0]) ?_ 4 _ rfl;(with_reducible repeat (first|refine blk_drewN ?_ _|refine blk_drew ?_|refine blk_alloc ?_ _));refine blk_put (cs:=#[.bool t320,.bool t321,.int .i64 ((rd_T39 t314 t332).f0),.int .i64 0,.int .i64 0,.slice none 0 0]) ?_ 3 _ rfl;(with_reducible repeat (first|refine blk_drewN ?_ _|refine blk_drew ?_|refine blk_alloc ?_ _));refine blk_put (cs:=#[.bool t320,.bool t321,.int .i64 0,.int .i64 0,.int .i64 0,.slice none 0 0]) ?_ 2 _ rfl;(with_reducible repeat (first|refine blk_drewN ?_ _|refine blk_drew ?_|refine blk_alloc ?_ _));refine blk_put (cs:=#[.bool t320,.bool false,.int .i64 0,.int .i64 0,.int .i64 0,.slice none 0 0]) ?_ 1 _ rfl;(with_reducible repeat (first|refine blk_drewN ?_ _|refine blk_drew ?_|refine blk_alloc ?_ _));refine blk_put (cs:=#[.bool false,.bool false,.int .i64 0,.int .i64 0,.int .i64 0,.slice none 0 0]) ?_ 0 _ rfl;(with_reducible repeat (first|refine blk_drewN ?_ _|refine blk_drew ?_|refine blk_alloc ?_ _));exact BK313.out) Try.underlying34 rfl (by kernel_rfl)) rfl ?_
        exact ⟨_,_,by first|rfl|(simp [errW_none,errW_some] <;> rfl)|(simp [*,errW_none,errW_some] <;> rfl),by (with_reducible repeat (first|apply Kd.R_alloc|apply Kd.R_drewN|apply Kd.R_drew));exact Kd.R_mono (Kd.R_far (p:=⟨gb313,5,none⟩) (Kd.R_far (p:=⟨gb313,4,none⟩) (Kd.R_far (p:=⟨gb313,3,none⟩) (Kd.R_far (p:=⟨gb313,2,none⟩) (Kd.R_far (p:=⟨gb313,1,none⟩) (Kd.R_far (p:=⟨gb313,0,none⟩) (Kd.R_types HO_4.out BK313.out (by decide)) (fun _ hk=>hk.2) (.bool t320)) (fun _ hk=>hk.2) (.bool t321)) (fun _ hk=>hk.2) (.int .i64 ((rd_T39 t314 t332).f0))) (fun _ hk=>hk.2) (.int .i64 ((rd_T39 t314 t332).f1))) (fun _ hk=>hk.2) (.int .i64 ((rd_T39 t314 t332).f2))) (fun _ hk=>hk.2) (.slice Ao14 t325.length co14)) (fun _ hk=>hk.1.1),by (with_reducible repeat (first|apply Kd.N_alloc|apply Kd.N_drewN|apply Kd.N_drew));exact Kd.N_mono (Kd.N_far (p:=⟨gb313,5,none⟩) (Kd.N_far (p:=⟨gb313,4,none⟩) (Kd.N_far (p:=⟨gb313,3,none⟩) (Kd.N_far (p:=⟨gb313,2,none⟩) (Kd.N_far (p:=⟨gb313,1,none⟩) (Kd.N_far (p:=⟨gb313,0,none⟩) (Kd.N_mono HO_330005.out (fun k_ hk=>(⟨hk,hk.1.2.2.1⟩:_∧k_ ≠ gb313))) (fun _ hk=>hk.2) (.bool t320)) (fun _ hk=>hk.2) (.bool t321)) (fun _ hk=>hk.2) (.int .i64 ((rd_T39 t314 t332).f0))) (fun _ hk=>hk.2) (.int .i64 ((rd_T39 t314 t332).f1))) (fun _ hk=>hk.2) (.int .i64 ((rd_T39 t314 t332).f2))) (fun _ hk=>hk.2) (.slice Ao14 t325.length co14)) (fun _ hk=>⟨hk.1.1.1,hk.1.1.2.1⟩),by repeat (first|(with_reducible first|exact HI0.out|apply IsS92.alloc|apply IsS92.drewN|apply IsS92.drew|apply IsS92.set_1|refine IsS92.far ?_ NB0_313.out _|refine IsS92.far ?_ NB0_329.out _|refine IsS92.far ?_ NB0_335.out _)|exact HI0.out),by repeat (first|(with_reducible first|exact HB.out|apply below_alloc|apply pw_below_drewN|apply below_drew1|refine below_set ?_ (IsS92.ge HI0.out)|refine below_set ?_ GE313.out|refine below_set ?_ GE329.out|refine below_set ?_ GE335.out)|exact HB.out),by repeat (first|(with_reducible first|exact HK.out|apply KeepBut.set_|apply keep_drewN|apply keep_drew|apply keep_alloc|refine keep_far ?_ GW313.out _|refine keep_far ?_ GW329.out _|refine keep_far ?_ GW335.out _)|exact HK.out)⟩
     ·rw [if_neg c23] at H
      exact absurd H (by simp)
    ·rw [if_neg c22] at H
     exact absurd H (by simp)
   ·replace c20:=Bool.eq_false_iff.mpr c20
    subst c20
    have H1:(some (t314,t320,t321,t322,t323,t324,t325,x1001_4))=some (r1,r2,r3,r4,r5,r6,r7,r8):=by rw [if_neg (show ¬ (false=true) by decide)] at H;exact H
    clear H
    have H:=H1
    clear H1
    simp only [Option.some.injEq,Prod.mk.injEq] at H
    obtain ⟨rfl,rfl,rfl,rfl,rfl,rfl,rfl,rfl⟩:=H
    try go_wp2
    have n0_:=Aside0.mk (Kd.R_drew HO_4.out)
    have n1_:=Aside0.mk (Kd.N_drew HO_330005.out)
    have n2_:=Aside0.mk (blk_drew BK313.out)
    have n3_:=Aside0.mk (blk_drew BK329.out)
    have n4_:=Aside0.mk (IsS92.drew HI0.out)
    have n5_:=Aside0.mk (keep_drew HK.out)
    have n6_:=Aside0.mk (below_drew1 HB.out)
    clear HO_4
    clear HO_330005
    clear BK313
    clear BK329
    clear HI0
    clear HK
    clear HB
    have HO_4:=n0_
    have HO_330005:=n1_
    have BK313:=n2_
    have BK329:=n3_
    have HI0:=n4_
    have HK:=n5_
    have HB:=n6_
    clear n0_ n1_ n2_ n3_ n4_ n5_ n6_
    refine start_ (n:=4) (S:=fun w'=>w'.cell? ⟨gb329,0,none⟩=some (.bool t320)∧w'.cell? ⟨gb329,1,none⟩=some (.bool t321)∧w'.cell? ⟨gb329,2,none⟩=some (.int .i64 t322)∧w'.cell? ⟨gb329,3,none⟩=some (.int .i64 t323)∧w'.cell? ⟨gb329,4,none⟩=some (.int .i64 t324)∧w'.cell? ⟨gb329,5,none⟩=some (.slice Ao14 t325.length co14)) (ds:=[]) #[false,false,false,false] (by kernel_rfl) rfl rfl ⟨(blk_cell BK329.out 0).trans rfl,(blk_cell BK329.out 1).trans rfl,(blk_cell BK329.out 2).trans rfl,(blk_cell BK329.out 3).trans rfl,(blk_cell BK329.out 4).trans rfl,(blk_cell BK329.out 5).trans rfl⟩ (fun hHeld=>?_)
    generalize wc.drew=w96 at HO_4 HO_330005 BK313 BK329 HI0 HK HB hHeld ⊢
    refine pure_ (i:=0) (N:=some 62) (v:=?_) (a':=?_) #[true,false,false,false] rfl rfl (by kernel_rfl) (fun _ _ _ h=>h) (Or.inl ⟨by rfl,?_⟩) ?_ ?_
    rotate_left
    ·intro w'
     go_simp
     with_reducible rfl
    rotate_left
    ·simp only [Act.put,setIfInBounds_toArray,set_cons_zero,set_cons_succ,i64_w,i32_w]
     rfl
    refine pure_ (i:=2) (N:=some 2) (v:=?_) (a':=?_) #[true,false,true,false] rfl rfl (by kernel_rfl) (fun _ _ _ h=>h) (Or.inl ⟨by rfl,?_⟩) ?_ ?_
    rotate_left
    ·intro w'
     go_simp
     with_reducible rfl
    rotate_left
    ·simp only [Act.put,setIfInBounds_toArray,set_cons_zero,set_cons_succ,i64_w,i32_w]
     rfl
    refine take_ (i:=1) (N:=some 63) (v:=?_) (a':=?_) #[true,true,true,false] rfl rfl (by kernel_rfl) (fun _ _ _ h=>h) (Or.inl ⟨by rfl,?_⟩) hHeld ?_ ?_
    rotate_left
    ·rintro w' ⟨s0,s1,s2,s3,s4,s5⟩
     go_simp
     with_reducible rfl
    rotate_left
    ·simp only [Act.put,setIfInBounds_toArray,set_cons_zero,set_cons_succ,i64_w,i32_w]
     rfl
    refine one_ (i:=3) (N:=none) #[true,true,true,true] rfl rfl (by kernel_rfl) (by decide) (fun K hK=>?_)
    have hs97:w96.cell? ⟨gb313,0,none⟩=some (.bool false):=(blk_cell BK313.out 0).trans rfl
    have hfs97:=blk_frozen BK313.out 0
    have hns97_1:=NB329_313.out
    have hms97_1:=NB313_329.out
    have hs98:w96.cell? ⟨gb313,1,none⟩=some (.bool false):=(blk_cell BK313.out 1).trans rfl
    have hfs98:=blk_frozen BK313.out 1
    have hns98_1:=NB329_313.out
    have hms98_1:=NB313_329.out
    have hs99:w96.cell? ⟨gb313,2,none⟩=some (.int .i64 0):=(blk_cell BK313.out 2).trans rfl
    have hfs99:=blk_frozen BK313.out 2
    have hns99_1:=NB329_313.out
    have hms99_1:=NB313_329.out
    have hs100:w96.cell? ⟨gb313,3,none⟩=some (.int .i64 0):=(blk_cell BK313.out 3).trans rfl
    have hfs100:=blk_frozen BK313.out 3
    have hns100_1:=NB329_313.out
    have hms100_1:=NB313_329.out
    have hs101:w96.cell? ⟨gb313,4,none⟩=some (.int .i64 0):=(blk_cell BK313.out 4).trans rfl
    have hfs101:=blk_frozen BK313.out 4
    have hns101_1:=NB329_313.out
    have hms101_1:=NB313_329.out
    have hs102:w96.cell? ⟨gb313,5,none⟩=some (.slice none 0 0):=(blk_cell BK313.out 5).trans rfl
    have hfs102:=blk_frozen BK313.out 5
    have hns102_1:=NB329_313.out
    have hms102_1:=NB313_329.out
    refine skip_ (w1:=?_) (by rfl) rfl ?_ ?_
    rotate_left
    ·go_simp
     rfl
    refine hK.out _ _ ⟨((cell_far (p:=⟨gb313,_,none⟩) NB329_313.out _).trans (((cell_far (p:=⟨gb313,_,none⟩) NB329_313.out _).trans (((cell_far (p:=⟨gb313,_,none⟩) NB329_313.out _).trans (((cell_far (p:=⟨gb313,_,none⟩) NB329_313.out _).trans (((cell_far (p:=⟨gb313,_,none⟩) NB329_313.out _).trans (((cell_far (p:=⟨gb313,_,none⟩) NB329_313.out _).trans (hHeld.1)))))))))))),((cell_far (p:=⟨gb313,_,none⟩) NB329_313.out _).trans (((cell_far (p:=⟨gb313,_,none⟩) NB329_313.out _).trans (((cell_far (p:=⟨gb313,_,none⟩) NB329_313.out _).trans (((cell_far (p:=⟨gb313,_,none⟩) NB329_313.out _).trans (((cell_far (p:=⟨gb313,_,none⟩) NB329_313.out _).trans (((cell_far (p:=⟨gb313,_,none⟩) NB329_313.out _).trans (hHeld.2.1)))))))))))),((cell_far (p:=⟨gb313,_,none⟩) NB329_313.out _).trans (((cell_far (p:=⟨gb313,_,none⟩) NB329_313.out _).trans (((cell_far (p:=⟨gb313,_,none⟩) NB329_313.out _).trans (((cell_far (p:=⟨gb313,_,none⟩) NB329_313.out _).trans (((cell_far (p:=⟨gb313,_,none⟩) NB329_313.out _).trans (((cell_far (p:=⟨gb313,_,none⟩) NB329_313.out _).trans (hHeld.2.2.1)))))))))))),((cell_far (p:=⟨gb313,_,none⟩) NB329_313.out _).trans (((cell_far (p:=⟨gb313,_,none⟩) NB329_313.out _).trans (((cell_far (p:=⟨gb313,_,none⟩) NB329_313.out _).trans (((cell_far (p:=⟨gb313,_,none⟩) NB329_313.out _).trans (((cell_far (p:=⟨gb313,_,none⟩) NB329_313.out _).trans (((cell_far (p:=⟨gb313,_,none⟩) NB329_313.out _).trans (hHeld.2.2.2.1)))))))))))),((cell_far (p:=⟨gb313,_,none⟩) NB329_313.out _).trans (((cell_far (p:=⟨gb313,_,none⟩) NB329_313.out _).trans (((cell_far (p:=⟨gb313,_,none⟩) NB329_313.out _).trans (((cell_far (p:=⟨gb313,_,none⟩) NB329_313.out _).trans (((cell_far (p:=⟨gb313,_,none⟩) NB329_313.out _).trans (((cell_far (p:=⟨gb313,_,none⟩) NB329_313.out _).trans (hHeld.2.2.2.2.1)))))))))))),((cell_far (p:=⟨gb313,_,none⟩) NB329_313.out _).trans (((cell_far (p:=⟨gb313,_,none⟩) NB329_313.out _).trans (((cell_far (p:=⟨gb313,_,none⟩) NB329_313.out _).trans (((cell_far (p:=⟨gb313,_,none⟩) NB329_313.out _).trans (((cell_far (p:=⟨gb313,_,none⟩) NB329_313.out _).trans (((cell_far (p:=⟨gb313,_,none⟩) NB329_313.out _).trans (hHeld.2.2.2.2.2))))))))))))⟩ (fun hHeld=>?_)
    clear hK K
    refine done_ (by kernel_rfl) ?_
    try go_wp2
    refine bodyPost_ret (results_tc rfl _ _ gb313 34 #[.bool t320,.bool t321,.int .i64 t322,.int .i64 t323,.int .i64 t324,.slice Ao14 t325.length co14] (0,0) _ rfl (by (with_reducible repeat (first|refine blk_drewN ?_ _|refine blk_drew ?_|refine blk_alloc ?_ _));refine blk_put (cs:=#[.bool t320,.bool t321,.int .i64 t322,.int .i64 t323,.int .i64 t324,.slice none 0 0]) ?_ 5 _ rfl;(with_reducible repeat (first|refine blk_drewN ?_ _|refine blk_drew ?_|refine blk_alloc ?_ _));refine blk_put (cs:=#[.bool t320,.bool t321,.int .i64 t322,.int .i64 t323,.int .i64 0,.slice none 0 0]) ?_ 4 _ rfl;(with_reducible repeat (first|refine blk_drewN ?_ _|refine blk_drew ?_|refine blk_alloc ?_ _));refine blk_put (cs:=#[.bool t320,.bool t321,.int .i64 t322,.int .i64 0,.int .i64 0,.slice none 0 0]) ?_ 3 _ rfl;(with_reducible repeat (first|refine blk_drewN ?_ _|refine blk_drew ?_|refine blk_alloc ?_ _));refine blk_put (cs:=#[.bool t320,.bool t321,.int .i64 0,.int .i64 0,.int .i64 0,.slice none 0 0]) ?_ 2 _ rfl;(with_reducible repeat (first|refine blk_drewN ?_ _|refine blk_drew ?_|refine blk_alloc ?_ _));refine blk_put (cs:=#[.bool t320,.bool false,.int .i64 0,.int .i64 0,.int .i64 0,.slice none 0 0]) ?_ 1 _ rfl;(with_reducible repeat (first|refine blk_drewN ?_ _|refine blk_drew ?_|refine blk_alloc ?_ _));refine blk_put (cs:=#[.bool false,.bool false,.int .i64 0,.int .i64 0,.int .i64 0,.slice none 0 0]) ?_ 0 _ rfl;(with_reducible repeat (first|refine blk_drewN ?_ _|refine blk_drew ?_|refine blk_alloc ?_ _));exact BK313.out) Try.underlying34 rfl (by kernel_rfl)) rfl ?_
    exact ⟨_,_,by first|rfl|(simp [errW_none,errW_some] <;> rfl)|(simp [*,errW_none,errW_some] <;> rfl),by (with_reducible repeat (first|apply Kd.R_alloc|apply Kd.R_drewN|apply Kd.R_drew));exact Kd.R_mono (Kd.R_far (p:=⟨gb313,5,none⟩) (Kd.R_far (p:=⟨gb313,4,none⟩) (Kd.R_far (p:=⟨gb313,3,none⟩) (Kd.R_far (p:=⟨gb313,2,none⟩) (Kd.R_far (p:=⟨gb313,1,none⟩) (Kd.R_far (p:=⟨gb313,0,none⟩) (Kd.R_types HO_4.out BK313.out (by decide)) (fun _ hk=>hk.2) (.bool t320)) (fun _ hk=>hk.2) (.bool t321)) (fun _ hk=>hk.2) (.int .i64 t322)) (fun _ hk=>hk.2) (.int .i64 t323)) (fun _ hk=>hk.2) (.int .i64 t324)) (fun _ hk=>hk.2) (.slice Ao14 t325.length co14)) (fun _ hk=>hk.1),by (with_reducible repeat (first|apply Kd.N_alloc|apply Kd.N_drewN|apply Kd.N_drew));exact Kd.N_mono (Kd.N_far (p:=⟨gb313,5,none⟩) (Kd.N_far (p:=⟨gb313,4,none⟩) (Kd.N_far (p:=⟨gb313,3,none⟩) (Kd.N_far (p:=⟨gb313,2,none⟩) (Kd.N_far (p:=⟨gb313,1,none⟩) (Kd.N_far (p:=⟨gb313,0,none⟩) (Kd.N_mono HO_330005.out (fun k_ hk=>(⟨hk,hk.2.2.1⟩:_∧k_ ≠ gb313))) (fun _ hk=>hk.2) (.bool t320)) (fun _ hk=>hk.2) (.bool t321)) (fun _ hk=>hk.2) (.int .i64 t322)) (fun _ hk=>hk.2) (.int .i64 t323)) (fun _ hk=>hk.2) (.int .i64 t324)) (fun _ hk=>hk.2) (.slice Ao14 t325.length co14)) (fun _ hk=>⟨hk.1.1,hk.1.2.1⟩),by repeat (first|(with_reducible first|exact HI0.out|apply IsS92.alloc|apply IsS92.drewN|apply IsS92.drew|apply IsS92.set_1|refine IsS92.far ?_ NB0_313.out _|refine IsS92.far ?_ NB0_329.out _)|exact HI0.out),by repeat (first|(with_reducible first|exact HB.out|apply below_alloc|apply pw_below_drewN|apply below_drew1|refine below_set ?_ (IsS92.ge HI0.out)|refine below_set ?_ GE313.out|refine below_set ?_ GE329.out)|exact HB.out),by repeat (first|(with_reducible first|exact HK.out|apply KeepBut.set_|apply keep_drewN|apply keep_drew|apply keep_alloc|refine keep_far ?_ GW313.out _|refine keep_far ?_ GW329.out _)|exact HK.out)⟩
end Go.Proofs.Ytkhmopmfbocokaa.T
namespace Go.Proofs.Ytkhmopmfbocokaa.T
open Go.RowKit Go.Proofs.YtkhmopmfbocokaaW.PrintWords Go.Proofs.YtkhmopmfbocokaaW.PrintLast Go.Proofs.YtkhmopmfbocokaaW.PrintMore
attribute [local go_sem] max2_int max_two
set_option linter.unusedVariables false
set_option linter.unusedSimpArgs false
def spec_DrawProducersCheck.f (k:Nat) (l0:List Int):Option ((List (S39)) × Bool × Bool × Int × Int × Int × (List (S79))):=(spec_l6Open.f l0).bind fun bt345=>((spec_l92Numbered.f k bt345.1 bt345.2).bind fun bt348=>(some (bt348.1,bt348.2.1,bt348.2.2.1,bt348.2.2.2.1,bt348.2.2.2.2.1,bt348.2.2.2.2.2.1,bt348.2.2.2.2.2.2.1)))
def impl_baseValid.f (a0:Int) (a1:Int):Option (Bool):=(impl_within.f a0 0 99999).bind fun t360=>(if t360=true then ((impl_within.f a1 0 99999).bind fun t361=>(some t361)) else (some false))
set_option maxHeartbeats 8000000 in
set_option maxRecDepth 100000 in
theorem impl_baseValid.calls (a0:Int) (a1:Int) (r:Bool) (w:World) (h:impl_baseValid.f a0 a1=some r) :
  Calls Try.prog 72 #[.int .i64 a0,.int .i64 a1] w fun e w'=>e = .returned (.bool r)∧Drawn0 w w':=by
 have H:((impl_within.f a0 0 99999).bind fun t360=>(if t360=true then ((impl_within.f a1 0 99999).bind fun t361=>(some t361)) else (some false)))=some r:=h
 clear h
 replace H:=Option.bind_eq_some_iff.mp H
 obtain ⟨t360,A30,H⟩:=H
 replace H:(if t360=true then ((impl_within.f a1 0 99999).bind fun t361=>(some t361)) else (some false))=some r:=H
 have A3:=Aside0.mk A30
 clear A30
 by_cases c4:t360=true
 ·subst c4
  have H1:((impl_within.f a1 0 99999).bind fun t361=>(some t361))=some r:=by rw [if_pos rfl] at H;exact H
  clear H
  have H:=H1
  clear H1
  replace H:=Option.bind_eq_some_iff.mp H
  obtain ⟨t361,A50,H⟩:=H
  replace H:(some t361)=some r:=H
  have A5:=Aside0.mk A50
  clear A50
  obtain rfl:=Option.some.inj H
  go_enter Try.func72,Try.ntmps72
  go_wp2_with (first|((with_reducible refine gate_callee (f:=52) rfl ?_);refine goesL_ (some 6) rfl rfl Try.func52 (by kernel_rfl) rfl #[.int .i64 a0,.int .i64 0,.int .i64 99999] rfl (by (try simp only [map_toArray,map_cons,map_nil]);first|done|rfl|(simp only [length_drop,length_take];rfl)) ?_;(with_reducible refine (impl_within.calls a0 0 99999 true _ A3.out).mono ?_);rintro e w' ⟨rfl,⟨nd,rfl⟩⟩;refine ⟨_,rfl,?_⟩)|(go_at_call 52;(with_reducible refine (impl_within.calls a1 0 99999 t361 _ A5.out).mono ?_);rintro e w' ⟨rfl,⟨nd,rfl⟩⟩))
  go_ret
  exact ⟨by first|rfl|(simp;done)|(simp [*];done),by repeat (first|exact Drawn0.refl _|apply Drawn0.step)⟩
 ·replace c4:=Bool.eq_false_iff.mpr c4
  subst c4
  have H1:(some false)=some r:=by rw [if_neg (show ¬ (false=true) by decide)] at H;exact H
  clear H
  have H:=H1
  clear H1
  obtain rfl:=Option.some.inj H
  go_enter Try.func72,Try.ntmps72
  go_wp2_with (first|((with_reducible refine gate_callee (f:=52) rfl ?_);refine goesL_ (some 6) rfl rfl Try.func52 (by kernel_rfl) rfl #[.int .i64 a0,.int .i64 0,.int .i64 99999] rfl (by (try simp only [map_toArray,map_cons,map_nil]);first|done|rfl|(simp only [length_drop,length_take];rfl)) ?_;(with_reducible refine (impl_within.calls a0 0 99999 false _ A3.out).mono ?_);rintro e w' ⟨rfl,⟨nd,rfl⟩⟩;refine ⟨_,rfl,?_⟩))
  go_ret
  exact ⟨by first|rfl|(simp;done)|(simp [*];done),by repeat (first|exact Drawn0.refl _|apply Drawn0.step)⟩
def impl_isByte.f (a0:Int):Option (Bool):=if a0 ≥ 0 then (some (decide (a0 ≤ 255))) else (some false)
set_option maxHeartbeats 8000000 in
set_option maxRecDepth 100000 in
theorem impl_isByte.calls (a0:Int) (r:Bool) (w:World) (h:impl_isByte.f a0=some r) :
  Calls Try.prog 84 #[.int .i64 a0] w fun e w'=>e = .returned (.bool r)∧Drawn0 w w':=by
 have H:(if a0 ≥ 0 then (some (decide (a0 ≤ 255))) else (some false))=some r:=h
 clear h
 by_cases c2:a0 ≥ 0
 ·rw [if_pos c2] at H
  have c2b0:decide (0 ≤ a0)=true:=decide_eq_true c2
  clear c2
  obtain rfl:=Option.some.inj H
  go_enter Try.func84,Try.ntmps84
  go_wp2
  go_ret
  exact ⟨by first|rfl|(simp;done)|(simp [*];done),by repeat (first|exact Drawn0.refl _|apply Drawn0.step)⟩
 ·rw [if_neg c2] at H
  have c2b0:decide (0 ≤ a0)=false:=decide_eq_false c2
  clear c2
  obtain rfl:=Option.some.inj H
  go_enter Try.func84,Try.ntmps84
  go_wp2
  go_ret
  exact ⟨by first|rfl|(simp;done)|(simp [*];done),by repeat (first|exact Drawn0.refl _|apply Drawn0.step)⟩
end Go.Proofs.Ytkhmopmfbocokaa.T
namespace Go.Proofs.Ytkhmopmfbocokaa.T
open Go.RowKit Go.Proofs.YtkhmopmfbocokaaW.PrintWords Go.Proofs.YtkhmopmfbocokaaW.PrintLast Go.Proofs.YtkhmopmfbocokaaW.PrintMore
attribute [local go_sem] max2_int max_two
set_option linter.unusedVariables false
set_option linter.unusedSimpArgs false
def impl_allBytes.l0:Nat→List Int→Int→Int→Option (Bool)
 | 0,_,_,_=>none
 | k+1,x5,x6,x7=>if x7 < x6 then (if 0 ≤ x7 then (if x7 < (x5.length:Int) then ((impl_isByte.f (rd x5 x7)).bind fun t363=>(if t363=true then (impl_allBytes.l0 k x5 x6 (wrap64 (x7+1))) else (some false))) else (none)) else (none)) else (some true)
def impl_allBytes.f (k:Nat) (l0:List Int):Option (Bool):=impl_allBytes.l0 k l0 (l0.length:Int) 0
set_option maxHeartbeats 8000000 in
set_option maxRecDepth 100000 in
theorem impl_allBytes.calls (k:Nat) (A0:Option Addr) (c0:Nat) (l0:List Int) (r:Bool) (w:World) (hr0:Kd.C (Kd.int .i64) w A0 l0.length l0) (hc0:l0.length ≤ c0) (h:impl_allBytes.f k l0=some r) :
  Calls Try.prog 79 #[.slice A0 l0.length c0] w fun e w'=>e = .returned (.bool r)∧Drawn0 w w':=by
 have HR0:=Aside0.mk hr0
 have HC0:=Aside0.mk hc0
 clear hr0 hc0
 have H:(impl_allBytes.l0 k l0 (l0.length:Int) 0)=some r:=h
 clear h
 have H':=Aside0.mk H
 clear H
 go_enter Try.func79,Try.ntmps79
 go_wp2
 go_loopg [7] k (fun kq v7 w'=>∃ (x7_1:Int),v7 = .int .i64 x7_1∧Aside0 (impl_allBytes.l0 kq l0 (l0.length:Int) x7_1=some r)∧Aside0 (kq ≤ k)∧Drawn0 w w')
 case atStart=>exact ⟨(0),(by first|rfl|(simp;done)|(simp [*];done)),H',⟨Nat.le_refl _⟩,by repeat (first|exact Drawn0.refl _|apply Drawn0.step)⟩
 case round=>
  clear H'
  obtain ⟨x7_1,rfl,HA,HK1,⟨m1,rfl⟩⟩:=hrel
  cases gk with
  | zero=>exact absurd HA.out (by simp [impl_allBytes.l0])
  | succ k1=>
   have H:=HA.out
   clear HA
   simp only [impl_allBytes.l0] at H
   by_cases c2:x7_1 < (l0.length:Int)
   ·rw [if_pos c2] at H
    have c2b0:decide (x7_1 < (l0.length:Int))=true:=decide_eq_true c2
    clear c2
    by_cases c3 : 0 ≤ x7_1
    ·rw [if_pos c3] at H
     have c3b0:decide (0 ≤ x7_1)=true:=decide_eq_true c3
     clear c3
     by_cases c4:x7_1 < (l0.length:Int)
     ·rw [if_pos c4] at H
      have c4b0:decide (x7_1 < (l0.length:Int))=true:=decide_eq_true c4
      clear c4
      replace H:=Option.bind_eq_some_iff.mp H
      obtain ⟨t363,A50,H⟩:=H
      replace H:(if t363=true then (impl_allBytes.l0 k1 l0 (l0.length:Int) (wrap64 (x7_1+1))) else (some false))=some r:=H
      have A5:=Aside0.mk A50
      clear A50
      by_cases c6:t363=true
      ·subst c6
       have H1:(impl_allBytes.l0 k1 l0 (l0.length:Int) (wrap64 (x7_1+1)))=some r:=by rw [if_pos rfl] at H;exact H
       clear H
       have H:=H1
       clear H1
       have H':=Aside0.mk H
       clear H
       have p362 : 0 ≤ (x7_1:Int):=of_decide_eq_true (by first|(with_reducible assumption)|assumption)
       have q362:x7_1 < (l0.length:Int):=of_decide_eq_true (by first|(with_reducible assumption)|assumption)
       obtain ⟨ad362,e362,hx362_0⟩:=Kd.at_int HR0.out x7_1 p362 q362
       cases e362
       replace p362:=eq_true p362
       replace q362:=eq_true q362
       go_wp2_with (first|((with_reducible refine gate_callee (f:=84) rfl ?_);refine goesL_ (some 12) rfl rfl Try.func84 (by kernel_rfl) rfl #[.int .i64 (rd l0 x7_1)] rfl (by (try simp only [map_toArray,map_cons,map_nil]);first|done|rfl|(simp only [length_drop,length_take];rfl)) ?_;(with_reducible refine (impl_isByte.calls (rd l0 x7_1) true _ A5.out).mono ?_);rintro e w' ⟨rfl,⟨nd,rfl⟩⟩;refine ⟨_,rfl,?_⟩))
       go_roundg k1
       case measure=>have:=HK1.out;omega
       case rel=>exact ⟨(wrap64 (x7_1+1)),(by first|rfl|(simp;done)|(simp [*];done)),H',⟨by have:=HK1.out;omega⟩,by repeat (first|exact Drawn0.refl _|apply Drawn0.step)⟩
      ·replace c6:=Bool.eq_false_iff.mpr c6
       subst c6
       have H1:(some false)=some r:=by rw [if_neg (show ¬ (false=true) by decide)] at H;exact H
       clear H
       have H:=H1
       clear H1
       obtain rfl:=Option.some.inj H
       have p362 : 0 ≤ (x7_1:Int):=of_decide_eq_true (by first|(with_reducible assumption)|assumption)
       have q362:x7_1 < (l0.length:Int):=of_decide_eq_true (by first|(with_reducible assumption)|assumption)
       obtain ⟨ad362,e362,hx362_0⟩:=Kd.at_int HR0.out x7_1 p362 q362
       cases e362
       replace p362:=eq_true p362
       replace q362:=eq_true q362
       go_wp2_with (first|((with_reducible refine gate_callee (f:=84) rfl ?_);refine goesL_ (some 12) rfl rfl Try.func84 (by kernel_rfl) rfl #[.int .i64 (rd l0 x7_1)] rfl (by (try simp only [map_toArray,map_cons,map_nil]);first|done|rfl|(simp only [length_drop,length_take];rfl)) ?_;(with_reducible refine (impl_isByte.calls (rd l0 x7_1) false _ A5.out).mono ?_);rintro e w' ⟨rfl,⟨nd,rfl⟩⟩;refine ⟨_,rfl,?_⟩))
       go_ret
       exact ⟨by first|rfl|(simp;done)|(simp [*];done),by repeat (first|exact Drawn0.refl _|apply Drawn0.step)⟩
     ·rw [if_neg c4] at H
      exact absurd H (by simp)
    ·rw [if_neg c3] at H
     exact absurd H (by simp)
   ·rw [if_neg c2] at H
    have c2b0:decide (x7_1 < (l0.length:Int))=false:=decide_eq_false c2
    clear c2
    obtain rfl:=Option.some.inj H
    go_wp2
    go_ret
    exact ⟨by first|rfl|(simp;done)|(simp [*];done),by repeat (first|exact Drawn0.refl _|apply Drawn0.step)⟩
def impl_partValid.f (k:Nat) (a0:Bool) (l1:List Int):Option (Bool):=if a0=true then (if (l1.length:Int) ≤ 12 then ((impl_allBytes.f k l1).bind fun t364=>(some t364)) else (some false)) else (some ((l1.length:Int) == 0))
set_option maxHeartbeats 8000000 in
set_option maxRecDepth 100000 in
theorem impl_partValid.calls (k:Nat) (a0:Bool) (A1:Option Addr) (c1:Nat) (l1:List Int) (r:Bool) (w:World) (hr1:Kd.C (Kd.int .i64) w A1 l1.length l1) (hc1:l1.length ≤ c1) (h:impl_partValid.f k a0 l1=some r) :
  Calls Try.prog 73 #[.bool a0,.slice A1 l1.length c1] w fun e w'=>e = .returned (.bool r)∧Drawn0 w w':=by
 have HR1:=Aside0.mk hr1
 have HC1:=Aside0.mk hc1
 clear hr1 hc1
 have H:(if a0=true then (if (l1.length:Int) ≤ 12 then ((impl_allBytes.f k l1).bind fun t364=>(some t364)) else (some false)) else (some ((l1.length:Int) == 0)))=some r:=h
 clear h
 by_cases c3:a0=true
 ·subst c3
  have H1:(if (l1.length:Int) ≤ 12 then ((impl_allBytes.f k l1).bind fun t364=>(some t364)) else (some false))=some r:=by rw [if_pos rfl] at H;exact H
  clear H
  have H:=H1
  clear H1
  by_cases c4:(l1.length:Int) ≤ 12
  ·rw [if_pos c4] at H
   have c4b0:decide ((l1.length:Int) ≤ 12)=true:=decide_eq_true c4
   have c4b1:decide (l1.length ≤ 12)=true:=decide_eq_true (by omega)
   clear c4
   replace H:=Option.bind_eq_some_iff.mp H
   obtain ⟨t364,A50,H⟩:=H
   replace H:(some t364)=some r:=H
   have A5:=Aside0.mk A50
   clear A50
   obtain rfl:=Option.some.inj H
   go_enter Try.func73,Try.ntmps73
   go_wp2_with (first|(go_at_call 79;(with_reducible refine (impl_allBytes.calls k _ _ l1 t364 _ ?side1 ?side2 A5.out).mono ?_);(case side1=>repeat (first|exact HR1.out|(with_reducible refine Kd.C_alloc ?_ _)|(with_reducible refine Kd.C_drewN ?_ _)|(with_reducible refine Kd.C_drew ?_)));(case side2=>exact HC1.out);rintro e w' ⟨rfl,⟨nd,rfl⟩⟩))
   go_ret
   exact ⟨by first|rfl|(simp;done)|(simp [*];done),by repeat (first|exact Drawn0.refl _|apply Drawn0.step)⟩
  ·rw [if_neg c4] at H
   have c4b0:decide ((l1.length:Int) ≤ 12)=false:=decide_eq_false c4
   have c4b1:decide (l1.length ≤ 12)=false:=decide_eq_false (by omega)
   clear c4
   obtain rfl:=Option.some.inj H
   go_enter Try.func73,Try.ntmps73
   go_wp2
   go_ret
   exact ⟨by first|rfl|(simp;done)|(simp [*];done),by repeat (first|exact Drawn0.refl _|apply Drawn0.step)⟩
 ·replace c3:=Bool.eq_false_iff.mpr c3
  subst c3
  have H1:(some ((l1.length:Int) == 0))=some r:=by rw [if_neg (show ¬ (false=true) by decide)] at H;exact H
  clear H
  have H:=H1
  clear H1
  obtain rfl:=Option.some.inj H
  go_enter Try.func73,Try.ntmps73
  go_wp2
  go_ret
  exact ⟨by first|rfl|(simp;done)|(simp [*];done),by repeat (first|exact Drawn0.refl _|apply Drawn0.step)⟩
end Go.Proofs.Ytkhmopmfbocokaa.T
namespace Go.Proofs.Ytkhmopmfbocokaa.T
open Go.RowKit Go.Proofs.YtkhmopmfbocokaaW.PrintWords Go.Proofs.YtkhmopmfbocokaaW.PrintLast Go.Proofs.YtkhmopmfbocokaaW.PrintMore
attribute [local go_sem] max2_int max_two
set_option linter.unusedVariables false
set_option linter.unusedSimpArgs false
def impl_RecordValid.f (k:Nat) (a0_0:Int) (a0_1:Int) (a0_2:Bool) (l0_3:List Int) (a0_4:Bool) (l0_5:List Int):Option (Bool):=(impl_baseValid.f a0_0 a0_1).bind fun t366=>(if t366=true then ((impl_partValid.f k a0_2 l0_3).bind fun t367=>(if t367=true then ((impl_partValid.f k a0_4 l0_5).bind fun t368=>(some t368)) else (some false))) else (some false))
set_option maxHeartbeats 8000000 in
set_option maxRecDepth 100000 in
theorem impl_RecordValid.calls (k:Nat) (a0_0:Int) (a0_1:Int) (a0_2:Bool) (A0_3:Option Addr) (c0_3:Nat) (l0_3:List Int) (a0_4:Bool) (A0_5:Option Addr) (c0_5:Nat) (l0_5:List Int) (r:Bool) (w:World) (hr0_3:Kd.C (Kd.int .i64) w A0_3 l0_3.length l0_3) (hc0_3:l0_3.length ≤ c0_3) (hr0_5:Kd.C (Kd.int .i64) w A0_5 l0_5.length l0_5) (hc0_5:l0_5.length ≤ c0_5) (h:impl_RecordValid.f k a0_0 a0_1 a0_2 l0_3 a0_4 l0_5=some r) :
  Calls Try.prog 61 #[.agg #[.int .i64 a0_0,.int .i64 a0_1,.bool a0_2,.slice A0_3 l0_3.length c0_3,.bool a0_4,.slice A0_5 l0_5.length c0_5]] w fun e w'=>e = .returned (.bool r)∧Below w.heap.size w w':=by
 have hu79:=Try.underlying79
 have HR0_3:=Aside0.mk hr0_3
 have HC0_3:=Aside0.mk hc0_3
 clear hr0_3 hc0_3
 have HR0_5:=Aside0.mk hr0_5
 have HC0_5:=Aside0.mk hc0_5
 clear hr0_5 hc0_5
 have HB:=Aside0.mk (Below.refl w.heap.size w)
 have H:((impl_baseValid.f a0_0 a0_1).bind fun t366=>(if t366=true then ((impl_partValid.f k a0_2 l0_3).bind fun t367=>(if t367=true then ((impl_partValid.f k a0_4 l0_5).bind fun t368=>(some t368)) else (some false))) else (some false)))=some r:=h
 clear h
 replace H:=Option.bind_eq_some_iff.mp H
 obtain ⟨t366,A20,H⟩:=H
 replace H:(if t366=true then ((impl_partValid.f k a0_2 l0_3).bind fun t367=>(if t367=true then ((impl_partValid.f k a0_4 l0_5).bind fun t368=>(some t368)) else (some false))) else (some false))=some r:=H
 have A2:=Aside0.mk A20
 clear A20
 by_cases c3:t366=true
 ·subst c3
  have H1:((impl_partValid.f k a0_2 l0_3).bind fun t367=>(if t367=true then ((impl_partValid.f k a0_4 l0_5).bind fun t368=>(some t368)) else (some false)))=some r:=by rw [if_pos rfl] at H;exact H
  clear H
  have H:=H1
  clear H1
  replace H:=Option.bind_eq_some_iff.mp H
  obtain ⟨t367,A40,H⟩:=H
  replace H:(if t367=true then ((impl_partValid.f k a0_4 l0_5).bind fun t368=>(some t368)) else (some false))=some r:=H
  have A4:=Aside0.mk A40
  clear A40
  by_cases c5:t367=true
  ·subst c5
   have H1:((impl_partValid.f k a0_4 l0_5).bind fun t368=>(some t368))=some r:=by rw [if_pos rfl] at H;exact H
   clear H
   have H:=H1
   clear H1
   replace H:=Option.bind_eq_some_iff.mp H
   obtain ⟨t368,A60,H⟩:=H
   replace H:(some t368)=some r:=H
   have A6:=Aside0.mk A60
   clear A60
   obtain rfl:=Option.some.inj H
   go_enter Try.func61,Try.ntmps61
   go_wp2_with (first|((with_reducible refine gate_dst (N:=1) rfl ?_);refine box_event ?hg (N:=1) ?hd (cs:=#[.int .i64 a0_0,.int .i64 a0_1,.bool a0_2,.slice A0_3 l0_3.length c0_3,.bool a0_4,.slice A0_5 l0_5.length c0_5]) (t:=79) ?hr ?_;(case hd=>rfl);(case hg=>rfl);(case hr=>first|(go_simp;done)|(go_simp;rfl));intro gb365 hg w7 hbox hb;have n0_:=Aside0.mk (below_step (by repeat (first|(with_reducible first|exact HB.out|apply below_alloc|apply pw_below_drewN|apply below_drew1)|exact HB.out)) hb);have n1_:=Aside0.mk (hbox);have n2_:=Aside0.mk ((by rw [hg];exact (below_size (by repeat (first|(with_reducible first|exact HB.out|apply below_alloc|apply pw_below_drewN|apply below_drew1)|exact HB.out))):w.heap.size ≤ gb365));have n3_:=Aside0.mk ((by rw [hg];exact (below_size (by repeat (first|(with_reducible first|exact HB.out|apply below_alloc|apply pw_below_drewN|apply below_drew1)|exact HB.out))):w.heap.size ≤ gb365));clear HB;have HB:=n0_;have BK365:=n1_;have GW365:=n2_;have GE365:=n3_;clear n0_ n1_ n2_ n3_;clear hb hbox hg;have hcz8_0:w7.cell? ⟨gb365,0,none⟩=some (.int .i64 a0_0):=(blk_cell BK365.out 0).trans rfl;have hcz8_1:w7.cell? ⟨gb365,1,none⟩=some (.int .i64 a0_1):=(blk_cell BK365.out 1).trans rfl;have hcz8_2:w7.cell? ⟨gb365,2,none⟩=some (.bool a0_2):=(blk_cell BK365.out 2).trans rfl;have hcz8_3:w7.cell? ⟨gb365,3,none⟩=some (.slice A0_3 l0_3.length c0_3):=(blk_cell BK365.out 3).trans rfl;have hcz8_4:w7.cell? ⟨gb365,4,none⟩=some (.bool a0_4):=(blk_cell BK365.out 4).trans rfl;have hcz8_5:w7.cell? ⟨gb365,5,none⟩=some (.slice A0_5 l0_5.length c0_5):=(blk_cell BK365.out 5).trans rfl;have hfz8_0:=blk_frozen BK365.out 0;have hfz8_1:=blk_frozen BK365.out 1;have hfz8_2:=blk_frozen BK365.out 2;have hfz8_3:=blk_frozen BK365.out 3;have hfz8_4:=blk_frozen BK365.out 4;have hfz8_5:=blk_frozen BK365.out 5)|((with_reducible refine gate_callee (f:=72) rfl ?_);refine goesL_ (some 7) rfl rfl Try.func72 (by kernel_rfl) rfl #[.int .i64 a0_0,.int .i64 a0_1] rfl (by (try simp only [map_toArray,map_cons,map_nil]);first|done|rfl|(simp only [length_drop,length_take];rfl)) ?_;(with_reducible refine (impl_baseValid.calls a0_0 a0_1 true _ A2.out).mono ?_);rintro e w' ⟨rfl,⟨nd,rfl⟩⟩;refine ⟨_,rfl,?_⟩)|(go_at_call 73;(with_reducible refine (impl_partValid.calls k a0_2 _ _ l0_3 true _ ?side1 ?side2 A4.out).mono ?_);(case side1=>repeat (first|exact (Kd.C_below HR0_3.out (by repeat (first|(with_reducible first|exact HB.out|apply below_alloc|apply pw_below_drewN|apply below_drew1|refine below_set ?_ GE365.out)|exact HB.out)))|(with_reducible refine Kd.C_alloc ?_ _)|(with_reducible refine Kd.C_drewN ?_ _)|(with_reducible refine Kd.C_drew ?_)));(case side2=>exact HC0_3.out);rintro e w' ⟨rfl,⟨nd,rfl⟩⟩)|(go_at_call 73;(with_reducible refine (impl_partValid.calls k a0_4 _ _ l0_5 t368 _ ?side1 ?side2 A6.out).mono ?_);(case side1=>repeat (first|exact (Kd.C_below HR0_5.out (by repeat (first|(with_reducible first|exact HB.out|apply below_alloc|apply pw_below_drewN|apply below_drew1|refine below_set ?_ GE365.out)|exact HB.out)))|(with_reducible refine Kd.C_alloc ?_ _)|(with_reducible refine Kd.C_drewN ?_ _)|(with_reducible refine Kd.C_drew ?_)));(case side2=>exact HC0_5.out);rintro e w' ⟨rfl,⟨nd,rfl⟩⟩))
   go_ret
   exact ⟨by first|rfl|(simp [errW_none,errW_some] <;> rfl)|(simp [*,errW_none,errW_some] <;> rfl),by repeat (first|(with_reducible first|exact HB.out|apply below_alloc|apply pw_below_drewN|apply below_drew1|refine below_set ?_ GE365.out)|exact HB.out)⟩
  ·replace c5:=Bool.eq_false_iff.mpr c5
   subst c5
   have H1:(some false)=some r:=by rw [if_neg (show ¬ (false=true) by decide)] at H;exact H
   clear H
   have H:=H1
   clear H1
   obtain rfl:=Option.some.inj H
   go_enter Try.func61,Try.ntmps61
   go_wp2_with (first|((with_reducible refine gate_dst (N:=1) rfl ?_);refine box_event ?hg (N:=1) ?hd (cs:=#[.int .i64 a0_0,.int .i64 a0_1,.bool a0_2,.slice A0_3 l0_3.length c0_3,.bool a0_4,.slice A0_5 l0_5.length c0_5]) (t:=79) ?hr ?_;(case hd=>rfl);(case hg=>rfl);(case hr=>first|(go_simp;done)|(go_simp;rfl));intro gb365 hg w9 hbox hb;have n0_:=Aside0.mk (below_step (by repeat (first|(with_reducible first|exact HB.out|apply below_alloc|apply pw_below_drewN|apply below_drew1)|exact HB.out)) hb);have n1_:=Aside0.mk (hbox);have n2_:=Aside0.mk ((by rw [hg];exact (below_size (by repeat (first|(with_reducible first|exact HB.out|apply below_alloc|apply pw_below_drewN|apply below_drew1)|exact HB.out))):w.heap.size ≤ gb365));have n3_:=Aside0.mk ((by rw [hg];exact (below_size (by repeat (first|(with_reducible first|exact HB.out|apply below_alloc|apply pw_below_drewN|apply below_drew1)|exact HB.out))):w.heap.size ≤ gb365));clear HB;have HB:=n0_;have BK365:=n1_;have GW365:=n2_;have GE365:=n3_;clear n0_ n1_ n2_ n3_;clear hb hbox hg;have hcz10_0:w9.cell? ⟨gb365,0,none⟩=some (.int .i64 a0_0):=(blk_cell BK365.out 0).trans rfl;have hcz10_1:w9.cell? ⟨gb365,1,none⟩=some (.int .i64 a0_1):=(blk_cell BK365.out 1).trans rfl;have hcz10_2:w9.cell? ⟨gb365,2,none⟩=some (.bool a0_2):=(blk_cell BK365.out 2).trans rfl;have hcz10_3:w9.cell? ⟨gb365,3,none⟩=some (.slice A0_3 l0_3.length c0_3):=(blk_cell BK365.out 3).trans rfl;have hcz10_4:w9.cell? ⟨gb365,4,none⟩=some (.bool a0_4):=(blk_cell BK365.out 4).trans rfl;have hcz10_5:w9.cell? ⟨gb365,5,none⟩=some (.slice A0_5 l0_5.length c0_5):=(blk_cell BK365.out 5).trans rfl;have hfz10_0:=blk_frozen BK365.out 0;have hfz10_1:=blk_frozen BK365.out 1;have hfz10_2:=blk_frozen BK365.out 2;have hfz10_3:=blk_frozen BK365.out 3;have hfz10_4:=blk_frozen BK365.out 4;have hfz10_5:=blk_frozen BK365.out 5)|((with_reducible refine gate_callee (f:=72) rfl ?_);refine goesL_ (some 7) rfl rfl Try.func72 (by kernel_rfl) rfl #[.int .i64 a0_0,.int .i64 a0_1] rfl (by (try simp only [map_toArray,map_cons,map_nil]);first|done|rfl|(simp only [length_drop,length_take];rfl)) ?_;(with_reducible refine (impl_baseValid.calls a0_0 a0_1 true _ A2.out).mono ?_);rintro e w' ⟨rfl,⟨nd,rfl⟩⟩;refine ⟨_,rfl,?_⟩)|(go_at_call 73;(with_reducible refine (impl_partValid.calls k a0_2 _ _ l0_3 false _ ?side1 ?side2 A4.out).mono ?_);(case side1=>repeat (first|exact (Kd.C_below HR0_3.out (by repeat (first|(with_reducible first|exact HB.out|apply below_alloc|apply pw_below_drewN|apply below_drew1|refine below_set ?_ GE365.out)|exact HB.out)))|(with_reducible refine Kd.C_alloc ?_ _)|(with_reducible refine Kd.C_drewN ?_ _)|(with_reducible refine Kd.C_drew ?_)));(case side2=>exact HC0_3.out);rintro e w' ⟨rfl,⟨nd,rfl⟩⟩))
   go_ret
   exact ⟨by first|rfl|(simp [errW_none,errW_some] <;> rfl)|(simp [*,errW_none,errW_some] <;> rfl),by repeat (first|(with_reducible first|exact HB.out|apply below_alloc|apply pw_below_drewN|apply below_drew1|refine below_set ?_ GE365.out)|exact HB.out)⟩
 ·replace c3:=Bool.eq_false_iff.mpr c3
  subst c3
  have H1:(some false)=some r:=by rw [if_neg (show ¬ (false=true) by decide)] at H;exact H
  clear H
  have H:=H1
  clear H1
  obtain rfl:=Option.some.inj H
  go_enter Try.func61,Try.ntmps61
  go_wp2_with (first|((with_reducible refine gate_dst (N:=1) rfl ?_);refine box_event ?hg (N:=1) ?hd (cs:=#[.int .i64 a0_0,.int .i64 a0_1,.bool a0_2,.slice A0_3 l0_3.length c0_3,.bool a0_4,.slice A0_5 l0_5.length c0_5]) (t:=79) ?hr ?_;(case hd=>rfl);(case hg=>rfl);(case hr=>first|(go_simp;done)|(go_simp;rfl));intro gb365 hg w11 hbox hb;have n0_:=Aside0.mk (below_step (by repeat (first|(with_reducible first|exact HB.out|apply below_alloc|apply pw_below_drewN|apply below_drew1)|exact HB.out)) hb);have n1_:=Aside0.mk (hbox);have n2_:=Aside0.mk ((by rw [hg];exact (below_size (by repeat (first|(with_reducible first|exact HB.out|apply below_alloc|apply pw_below_drewN|apply below_drew1)|exact HB.out))):w.heap.size ≤ gb365));have n3_:=Aside0.mk ((by rw [hg];exact (below_size (by repeat (first|(with_reducible first|exact HB.out|apply below_alloc|apply pw_below_drewN|apply below_drew1)|exact HB.out))):w.heap.size ≤ gb365));clear HB;have HB:=n0_;have BK365:=n1_;have GW365:=n2_;have GE365:=n3_;clear n0_ n1_ n2_ n3_;clear hb hbox hg;have hcz12_0:w11.cell? ⟨gb365,0,none⟩=some (.int .i64 a0_0):=(blk_cell BK365.out 0).trans rfl;have hcz12_1:w11.cell? ⟨gb365,1,none⟩=some (.int .i64 a0_1):=(blk_cell BK365.out 1).trans rfl;have hcz12_2:w11.cell? ⟨gb365,2,none⟩=some (.bool a0_2):=(blk_cell BK365.out 2).trans rfl;have hcz12_3:w11.cell? ⟨gb365,3,none⟩=some (.slice A0_3 l0_3.length c0_3):=(blk_cell BK365.out 3).trans rfl;have hcz12_4:w11.cell? ⟨gb365,4,none⟩=some (.bool a0_4):=(blk_cell BK365.out 4).trans rfl;have hcz12_5:w11.cell? ⟨gb365,5,none⟩=some (.slice A0_5 l0_5.length c0_5):=(blk_cell BK365.out 5).trans rfl;have hfz12_0:=blk_frozen BK365.out 0;have hfz12_1:=blk_frozen BK365.out 1;have hfz12_2:=blk_frozen BK365.out 2;have hfz12_3:=blk_frozen BK365.out 3;have hfz12_4:=blk_frozen BK365.out 4;have hfz12_5:=blk_frozen BK365.out 5)|((with_reducible refine gate_callee (f:=72) rfl ?_);refine goesL_ (some 7) rfl rfl Try.func72 (by kernel_rfl) rfl #[.int .i64 a0_0,.int .i64 a0_1] rfl (by (try simp only [map_toArray,map_cons,map_nil]);first|done|rfl|(simp only [length_drop,length_take];rfl)) ?_;(with_reducible refine (impl_baseValid.calls a0_0 a0_1 false _ A2.out).mono ?_);rintro e w' ⟨rfl,⟨nd,rfl⟩⟩;refine ⟨_,rfl,?_⟩))
  go_ret
  exact ⟨by first|rfl|(simp [errW_none,errW_some] <;> rfl)|(simp [*,errW_none,errW_some] <;> rfl),by repeat (first|(with_reducible first|exact HB.out|apply below_alloc|apply pw_below_drewN|apply below_drew1|refine below_set ?_ GE365.out)|exact HB.out)⟩
end Go.Proofs.Ytkhmopmfbocokaa.T
