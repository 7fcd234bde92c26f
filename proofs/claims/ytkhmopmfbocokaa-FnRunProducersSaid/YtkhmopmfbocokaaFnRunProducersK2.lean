/- FnRunProducers, part 3 of 7: merged by wip/tools/pack2.py out of the texts that the row reaches; the pure statement is the session's own. -/
import Derived.Test.YtkhmopmfbocokaaFnRunProducersK1
open List (setIfInBounds_toArray set_cons_zero set_cons_succ map_toArray map_cons map_nil length_drop length_take)
namespace Go.Proofs.Ytkhmopmfbocokaa.T
open Go.RowKit Go.Proofs.YtkhmopmfbocokaaW.PrintWords Go.Proofs.YtkhmopmfbocokaaW.PrintLast Go.Proofs.YtkhmopmfbocokaaW.PrintMore
attribute [local go_sem] max2_int max_two
set_option linter.unusedVariables false
set_option linter.unusedSimpArgs false
def spec_l91Batch.j0:Nat→List Int→Int→Bool→Bool→Int→Int→Int→List (S79)→Option (Bool × Bool × Int × Int × Int × (List (S79)) × Int)
 | 0,_,_,_,_,_,_,_,_=>none
 | k+1,x1000,x1001,x278000,x278001,x278002,x278003,x278004,x278005=>(spec_l6Rd_pick.f k x1000 x1001 40).bind fun bt301=>(if bt301.1=0 then ((some (([(-1),1,100]:List Int):List Int)).bind fun y303=>((spec_l6Rd_pick.f k x1000 bt301.2 3).bind fun bt306=>(if 0 ≤ bt306.1 then (if bt306.1 < (y303.length:Int) then (some (x278000,x278001,x278002,rd y303 bt306.1,x278004,x278005,bt306.2)) else (none)) else (none)))) else (if bt301.1=1 then (if 0 < (x278005.length:Int) then (if x278005.length < 1759218604441 then (some (x278000,x278001,x278002,x278003,x278004,(x278005 ++ [(⟨(rd_T79 x278005 0).f0,(rd_T79 x278005 0).f1,(rd_T79 x278005 0).f2,(rd_T79 x278005 0).f3,(rd_T79 x278005 0).f4,(rd_T79 x278005 0).f5⟩:S79)]),bt301.2)) else (none)) else (none)) else (if bt301.1=2 then (some (x278000,!x278001,x278002,x278003,x278004,x278005,bt301.2)) else (some (x278000,x278001,x278002,x278003,x278004,x278005,bt301.2)))))
def spec_l91Batch.f (k:Nat) (s0_0:List Int) (s0_1:Int) (a1:Int):Option (Bool × Bool × Int × Int × Int × (List (S79)) × Int):=(spec_l6Rd_pick.f k s0_0 s0_1 2).bind fun bt271=>((spec_l91Records.f k s0_0 bt271.2 a1 4).bind fun bt273=>((spec_l6Rd_pick.f k s0_0 bt273.2 3).bind fun bt278=>(if bt278.1=0 then ((spec_l6Rd_pick.f k s0_0 bt278.2 3).bind fun bt280=>((spec_l6Rd_pick.f k s0_0 bt280.2 3).bind fun bt282=>((spec_l6Rd_pick.f k s0_0 bt282.2 5).bind fun bt284=>((spec_l6Rd_pick.f k s0_0 bt284.2 3).bind fun bt286=>(if bt286.1=0 then ((spec_l6Rd_pick.f k s0_0 bt286.2 200).bind fun bt288=>((spec_l6Rd_pick.f k s0_0 bt288.2 2).bind fun bt293=>(spec_l91Batch.j0 k s0_0 bt293.2 (bt271.1 == 0) true bt280.1 bt282.1 bt284.1 (([(⟨a1,bt288.1,false,(([]:List Int)),true,(([bt293.1]:List Int))⟩:S79)]:List (S79)))))) else (spec_l91Batch.j0 k s0_0 bt286.2 (bt271.1 == 0) false bt280.1 bt282.1 bt284.1 bt273.1)))))) else (spec_l91Batch.j0 k s0_0 bt278.2 (bt271.1 == 0) false 255 0 0 bt273.1))))
def spec_l91Batch.T13:Bool × List (List Nat × List Nat):=(true,[([],[]),([0],[0]),([],[]),([2],[2]),([3],[3]),([4],[4]),([5],[5]),([1,6],[1,6]),([0,1,2,3,4,5,6,7],[]),([8,7,7,0,1,2,3,4,5,6,7],[7,8])])
def spec_l91Batch.B13:List Nat:=[0,1,0,4,12,28,60,127,255,511]
theorem spec_l91Batch.tab13:rtab .any (opsOf Try.f68 13)=spec_l91Batch.T13:=by kernel_rfl
theorem spec_l91Batch.bits13:waitsOk spec_l91Batch.T13.2 spec_l91Batch.B13=true:=by kernel_rfl
set_option maxHeartbeats 8000000 in
set_option maxRecDepth 100000 in
theorem spec_l91Batch.calls (k:Nat) (g:Nat) (s0_0:List Int) (s0_1:Int) (a1:Int) (r1:Bool) (r2:Bool) (r3:Int) (r4:Int) (r5:Int) (r6:List (S79)) (r7:Int) (w0 w:World) (hI:IsS92 w0 w g s0_0 s0_1) (hB:Below w0.heap.size w0 w) (h:spec_l91Batch.f k s0_0 s0_1 a1=some (r1,r2,r3,r4,r5,r6,r7)) :
  Calls Try.prog 68 #[.pointer (some ⟨g,0,none⟩),.int .i64 a1] w fun e w'=>∃ v5_:Value,e = .returned (.agg #[.bool r1,.bool r2,.int .i64 r3,.int .i64 r4,.int .i64 r5,v5_])∧Kd.N k79 79 w' w.heap.size (fun k_=>(w.heap.size ≤ k_)) v5_ r6∧IsS92 w0 w' g s0_0 r7∧Below w0.heap.size w0 w'∧KeepBut w w' g none:=by
 have hu34:=Try.underlying34
 have hu79:=Try.underlying79
 have HI0:=Aside0.mk hI
 have HK:=Aside0.mk (KeepBut.refl w g none)
 have HL:=Aside0.mk hB.size
 clear hI
 have HW0:=Aside0.mk hB.size
 have HB:=Aside0.mk hB
 clear hB
 have H:((spec_l6Rd_pick.f k s0_0 s0_1 2).bind fun bt271=>((spec_l91Records.f k s0_0 bt271.2 a1 4).bind fun bt273=>((spec_l6Rd_pick.f k s0_0 bt273.2 3).bind fun bt278=>(if bt278.1=0 then ((spec_l6Rd_pick.f k s0_0 bt278.2 3).bind fun bt280=>((spec_l6Rd_pick.f k s0_0 bt280.2 3).bind fun bt282=>((spec_l6Rd_pick.f k s0_0 bt282.2 5).bind fun bt284=>((spec_l6Rd_pick.f k s0_0 bt284.2 3).bind fun bt286=>(if bt286.1=0 then ((spec_l6Rd_pick.f k s0_0 bt286.2 200).bind fun bt288=>((spec_l6Rd_pick.f k s0_0 bt288.2 2).bind fun bt293=>(spec_l91Batch.j0 k s0_0 bt293.2 (bt271.1 == 0) true bt280.1 bt282.1 bt284.1 (([(⟨a1,bt288.1,false,(([]:List Int)),true,(([bt293.1]:List Int))⟩:S79)]:List (S79)))))) else (spec_l91Batch.j0 k s0_0 bt286.2 (bt271.1 == 0) false bt280.1 bt282.1 bt284.1 bt273.1)))))) else (spec_l91Batch.j0 k s0_0 bt278.2 (bt271.1 == 0) false 255 0 0 bt273.1)))))=some (r1,r2,r3,r4,r5,r6,r7):=h
 clear h
 replace H:=Option.bind_eq_some_iff.mp H
 obtain ⟨⟨t271,t272⟩,A30,H⟩:=H
 replace H:((spec_l91Records.f k s0_0 t272 a1 4).bind fun bt273=>((spec_l6Rd_pick.f k s0_0 bt273.2 3).bind fun bt278=>(if bt278.1=0 then ((spec_l6Rd_pick.f k s0_0 bt278.2 3).bind fun bt280=>((spec_l6Rd_pick.f k s0_0 bt280.2 3).bind fun bt282=>((spec_l6Rd_pick.f k s0_0 bt282.2 5).bind fun bt284=>((spec_l6Rd_pick.f k s0_0 bt284.2 3).bind fun bt286=>(if bt286.1=0 then ((spec_l6Rd_pick.f k s0_0 bt286.2 200).bind fun bt288=>((spec_l6Rd_pick.f k s0_0 bt288.2 2).bind fun bt293=>(spec_l91Batch.j0 k s0_0 bt293.2 (t271 == 0) true bt280.1 bt282.1 bt284.1 (([(⟨a1,bt288.1,false,(([]:List Int)),true,(([bt293.1]:List Int))⟩:S79)]:List (S79)))))) else (spec_l91Batch.j0 k s0_0 bt286.2 (t271 == 0) false bt280.1 bt282.1 bt284.1 bt273.1)))))) else (spec_l91Batch.j0 k s0_0 bt278.2 (t271 == 0) false 255 0 0 bt273.1))))=some (r1,r2,r3,r4,r5,r6,r7):=H
 have A3:=Aside0.mk A30
 clear A30
 replace H:=Option.bind_eq_some_iff.mp H
 obtain ⟨⟨t273,t276⟩,A40,H⟩:=H
 replace H:((spec_l6Rd_pick.f k s0_0 t276 3).bind fun bt278=>(if bt278.1=0 then ((spec_l6Rd_pick.f k s0_0 bt278.2 3).bind fun bt280=>((spec_l6Rd_pick.f k s0_0 bt280.2 3).bind fun bt282=>((spec_l6Rd_pick.f k s0_0 bt282.2 5).bind fun bt284=>((spec_l6Rd_pick.f k s0_0 bt284.2 3).bind fun bt286=>(if bt286.1=0 then ((spec_l6Rd_pick.f k s0_0 bt286.2 200).bind fun bt288=>((spec_l6Rd_pick.f k s0_0 bt288.2 2).bind fun bt293=>(spec_l91Batch.j0 k s0_0 bt293.2 (t271 == 0) true bt280.1 bt282.1 bt284.1 (([(⟨a1,bt288.1,false,(([]:List Int)),true,(([bt293.1]:List Int))⟩:S79)]:List (S79)))))) else (spec_l91Batch.j0 k s0_0 bt286.2 (t271 == 0) false bt280.1 bt282.1 bt284.1 t273)))))) else (spec_l91Batch.j0 k s0_0 bt278.2 (t271 == 0) false 255 0 0 t273)))=some (r1,r2,r3,r4,r5,r6,r7):=H
 have A4:=Aside0.mk A40
 clear A40
 replace H:=Option.bind_eq_some_iff.mp H
 obtain ⟨⟨t278,t279⟩,A50,H⟩:=H
 replace H:(if t278=0 then ((spec_l6Rd_pick.f k s0_0 t279 3).bind fun bt280=>((spec_l6Rd_pick.f k s0_0 bt280.2 3).bind fun bt282=>((spec_l6Rd_pick.f k s0_0 bt282.2 5).bind fun bt284=>((spec_l6Rd_pick.f k s0_0 bt284.2 3).bind fun bt286=>(if bt286.1=0 then ((spec_l6Rd_pick.f k s0_0 bt286.2 200).bind fun bt288=>((spec_l6Rd_pick.f k s0_0 bt288.2 2).bind fun bt293=>(spec_l91Batch.j0 k s0_0 bt293.2 (t271 == 0) true bt280.1 bt282.1 bt284.1 (([(⟨a1,bt288.1,false,(([]:List Int)),true,(([bt293.1]:List Int))⟩:S79)]:List (S79)))))) else (spec_l91Batch.j0 k s0_0 bt286.2 (t271 == 0) false bt280.1 bt282.1 bt284.1 t273)))))) else (spec_l91Batch.j0 k s0_0 t279 (t271 == 0) false 255 0 0 t273))=some (r1,r2,r3,r4,r5,r6,r7):=H
 have A5:=Aside0.mk A50
 clear A50
 have HC6:=Aside0.mk H
 clear H
 go_enter Try.func68,Try.ntmps68
 go_upto_if 15 with (first|((with_reducible refine gate_dst (N:=4) rfl ?_);refine box_event ?hg (N:=4) ?hd (cs:=#[.bool false,.bool false,.int .i64 0,.int .i64 0,.int .i64 0,.slice none 0 0]) (t:=34) ?hr ?_;(case hd=>rfl);(case hg=>rfl);(case hr=>first|(go_simp;done)|(go_simp;rfl));intro gb270 hg w7 hbox hb;have n0_:=Aside0.mk (IsS92.below (by repeat (first|(with_reducible first|exact HI0.out|apply IsS92.alloc|apply IsS92.drewN|apply IsS92.drew|apply IsS92.set_1)|exact HI0.out)) hb);have n1_:=Aside0.mk (KeepBut.trans (by repeat (first|(with_reducible first|exact HK.out|apply KeepBut.set_|apply keep_drewN|apply keep_drew|apply keep_alloc)|exact HK.out)) (KeepBut.of_below hb g none) (.inl rfl));have n2_:=Aside0.mk (below_step (by repeat (first|(with_reducible first|exact HB.out|apply below_alloc|apply pw_below_drewN|apply below_drew1|refine below_set ?_ (IsS92.ge HI0.out))|exact HB.out)) hb);have n3_:=Aside0.mk (hbox);have n4_:=Aside0.mk ((by rw [hg];exact (keep_size (w:=w) (g:=g) (row:=none) (by repeat (first|(with_reducible first|exact HK.out|apply KeepBut.set_|apply keep_drewN|apply keep_drew|apply keep_alloc)|exact HK.out))):w.heap.size ≤ gb270));have n5_:=Aside0.mk ((Nat.le_trans HW0.out (by rw [hg];exact (keep_size (w:=w) (g:=g) (row:=none) (by repeat (first|(with_reducible first|exact HK.out|apply KeepBut.set_|apply keep_drewN|apply keep_drew|apply keep_alloc)|exact HK.out))):w.heap.size ≤ gb270):w0.heap.size ≤ gb270));have n6_:=Aside0.mk ((by rw [hg];exact Nat.ne_of_lt (IsS92.lt (show IsS92 w0 _ g s0_0 s0_1 from by repeat (first|(with_reducible first|exact HI0.out|apply IsS92.alloc|apply IsS92.drewN|apply IsS92.drew|apply IsS92.set_1)|exact HI0.out))):g ≠ gb270));have n7_:=Aside0.mk ((by rw [hg];exact Nat.ne_of_gt (IsS92.lt (show IsS92 w0 _ g s0_0 s0_1 from by repeat (first|(with_reducible first|exact HI0.out|apply IsS92.alloc|apply IsS92.drewN|apply IsS92.drew|apply IsS92.set_1)|exact HI0.out))):gb270 ≠ g));clear HI0 HK HB;have HI0:=n0_;have HK:=n1_;have HB:=n2_;have BK270:=n3_;have GW270:=n4_;have GE270:=n5_;have NB0_270:=n6_;have NB270_0:=n7_;clear n0_ n1_ n2_ n3_ n4_ n5_ n6_ n7_;clear hb hbox hg)|((with_reducible refine gate_callee (f:=67) rfl ?_);refine goesL_ (some 7) rfl rfl Try.func67 (by kernel_rfl) rfl #[.pointer (some ⟨g,0,none⟩),.int .i64 2] rfl (by (try simp only [map_toArray,map_cons,map_nil]);first|done|rfl|(simp only [length_drop,length_take];rfl)) ?_;(with_reducible refine (spec_l6Rd_pick.calls k g s0_0 s0_1 2 t271 t272 w0 _ ?side1 ?side2 A3.out).mono ?_);(case side1=>repeat (first|(with_reducible first|exact HI0.out|apply IsS92.alloc|apply IsS92.drewN|apply IsS92.drew|apply IsS92.set_1|refine IsS92.far ?_ NB0_270.out _)|exact HI0.out));(case side2=>repeat (first|(with_reducible first|exact HB.out|apply below_alloc|apply pw_below_drewN|apply below_drew1|refine below_set ?_ (IsS92.ge HI0.out)|refine below_set ?_ GE270.out)|exact HB.out));rintro e w8 ⟨rfl,hi,hb,hk⟩;refine ⟨_,rfl,?_⟩;have n0_:=Aside0.mk (KeepBut.blk hk (g':=gb270) (o:=.cells #[.bool false,.bool false,.int .i64 0,.int .i64 0,.int .i64 0,.slice none 0 0] 34 (0,0)) (by (with_reducible repeat (first|refine blk_drewN ?_ _|refine blk_drew ?_|refine blk_alloc ?_ _));exact BK270.out) NB270_0.out (by simp));have n1_:=Aside0.mk (KeepBut.trans (by repeat (first|(with_reducible first|exact HK.out|apply KeepBut.set_|apply keep_drewN|apply keep_drew|apply keep_alloc|refine keep_far ?_ GW270.out _)|exact HK.out)) hk (.inl rfl));have n2_:=Aside0.mk (hb);have n3_:=Aside0.mk (hi);clear BK270 HK HB HI0;have BK270:=n0_;have HK:=n1_;have HB:=n2_;have HI0:=n3_;clear n0_ n1_ n2_ n3_;(try clear hb);(try clear hb2);(try clear hk);(try clear hi))|((with_reducible refine gate_callee (f:=77) rfl ?_);refine goesL_ (some 11) rfl rfl Try.func77 (by kernel_rfl) rfl #[.pointer (some ⟨g,0,none⟩),.int .i64 a1,.int .i64 4] rfl (by (try simp only [map_toArray,map_cons,map_nil]);first|done|rfl|(simp only [length_drop,length_take];rfl)) ?_;(with_reducible refine (spec_l91Records.calls k g s0_0 t272 a1 4 t273 t276 w0 _ ?side1 ?side2 A4.out).mono ?_);(case side1=>repeat (first|(with_reducible first|exact HI0.out|apply IsS92.alloc|apply IsS92.drewN|apply IsS92.drew|apply IsS92.set_1|refine IsS92.far ?_ NB0_270.out _)|exact HI0.out));(case side2=>repeat (first|(with_reducible first|exact HB.out|apply below_alloc|apply pw_below_drewN|apply below_drew1|refine below_set ?_ (IsS92.ge HI0.out)|refine below_set ?_ GE270.out)|exact HB.out));rintro e w9 ⟨v274,rfl,ho0,hi,hb,hk⟩;refine ⟨_,rfl,?_⟩;have n0_:=Aside0.mk (KeepBut.blk hk (g':=gb270) (o:=.cells #[.bool false,.bool false,.int .i64 0,.int .i64 0,.int .i64 0,.slice none 0 0] 34 (0,0)) (by (with_reducible repeat (first|refine blk_drewN ?_ _|refine blk_drew ?_|refine blk_alloc ?_ _));exact BK270.out) NB270_0.out (by simp));have n1_:=Aside0.mk (Kd.N_lower (Kd.N_mono (ok':=fun k_=>(w.heap.size ≤ k_)∧k_ ≠ gb270∧k_ ≠ g) (Kd.S_N (Kd.S_bound ho0)) (fun k_ hk_=>⟨(Nat.le_trans (keep_size (w:=w) (g:=g) (row:=none) (by repeat (first|(with_reducible first|exact HK.out|apply KeepBut.set_|apply keep_drewN|apply keep_drew|apply keep_alloc|refine keep_far ?_ GW270.out _)|exact HK.out))) hk_.2.1),(Kd.freshB (g:=gb270) (o:=.cells #[.bool false,.bool false,.int .i64 0,.int .i64 0,.int .i64 0,.slice none 0 0] 34 (0,0)) (by (with_reducible repeat (first|refine blk_drewN ?_ _|refine blk_drew ?_|refine blk_alloc ?_ _));exact BK270.out) k_ hk_.2.1),(IsS92.fresh (by repeat (first|(with_reducible first|exact HI0.out|apply IsS92.alloc|apply IsS92.drewN|apply IsS92.drew|apply IsS92.set_1|refine IsS92.far ?_ NB0_270.out _)|exact HI0.out)) k_ hk_.2.1)⟩)) (keep_size (w:=w) (g:=g) (row:=none) (by repeat (first|(with_reducible first|exact HK.out|apply KeepBut.set_|apply keep_drewN|apply keep_drew|apply keep_alloc|refine keep_far ?_ GW270.out _)|exact HK.out))));have n2_:=Aside0.mk (KeepBut.trans (by repeat (first|(with_reducible first|exact HK.out|apply KeepBut.set_|apply keep_drewN|apply keep_drew|apply keep_alloc|refine keep_far ?_ GW270.out _)|exact HK.out)) hk (.inl rfl));have n3_:=Aside0.mk (hb);have n4_:=Aside0.mk (hi);clear BK270 HK HB HI0;have BK270:=n0_;have HO275:=n1_;have HK:=n2_;have HB:=n3_;have HI0:=n4_;clear n0_ n1_ n2_ n3_ n4_;(try clear hb);(try clear hb2);(try clear hk);(try clear hi);(try clear ho0);obtain ⟨Ao10,co10,eo10⟩:=Kd.N_slice HO275.out;subst eo10)|((with_reducible refine gate_dst (N:=5) rfl ?_);refine box_event ?hg (N:=5) ?hd (cs:=#[.bool false,.bool false,.int .i64 0,.int .i64 0,.int .i64 0,.slice none 0 0]) (t:=34) ?hr ?_;(case hd=>rfl);(case hg=>rfl);(case hr=>first|(go_simp;done)|(go_simp;rfl));intro gb277 hg w11 hbox hb;have n0_:=Aside0.mk (Kd.N_below (Kd.N_elderB (by (with_reducible repeat (first|apply Kd.N_alloc|apply Kd.N_drewN|apply Kd.N_drew));exact HO275.out) gb277 (Nat.le_of_eq hg.symm)) hb);have n1_:=Aside0.mk (IsS92.below (by repeat (first|(with_reducible first|exact HI0.out|apply IsS92.alloc|apply IsS92.drewN|apply IsS92.drew|apply IsS92.set_1|refine IsS92.far ?_ NB0_270.out _)|exact HI0.out)) hb);have n2_:=Aside0.mk (blk_below (g:=gb270) (o:=.cells #[.bool false,.bool false,.int .i64 0,.int .i64 0,.int .i64 0,.slice none 0 0] 34 (0,0)) (by (with_reducible repeat (first|refine blk_drewN ?_ _|refine blk_drew ?_|refine blk_alloc ?_ _));exact BK270.out) hb);have n3_:=Aside0.mk (KeepBut.trans (by repeat (first|(with_reducible first|exact HK.out|apply KeepBut.set_|apply keep_drewN|apply keep_drew|apply keep_alloc|refine keep_far ?_ GW270.out _)|exact HK.out)) (KeepBut.of_below hb g none) (.inl rfl));have n4_:=Aside0.mk (below_step (by repeat (first|(with_reducible first|exact HB.out|apply below_alloc|apply pw_below_drewN|apply below_drew1|refine below_set ?_ (IsS92.ge HI0.out)|refine below_set ?_ GE270.out)|exact HB.out)) hb);have n5_:=Aside0.mk (hbox);have n6_:=Aside0.mk ((by rw [hg];exact (keep_size (w:=w) (g:=g) (row:=none) (by repeat (first|(with_reducible first|exact HK.out|apply KeepBut.set_|apply keep_drewN|apply keep_drew|apply keep_alloc|refine keep_far ?_ GW270.out _)|exact HK.out))):w.heap.size ≤ gb277));have n7_:=Aside0.mk ((Nat.le_trans HW0.out (by rw [hg];exact (keep_size (w:=w) (g:=g) (row:=none) (by repeat (first|(with_reducible first|exact HK.out|apply KeepBut.set_|apply keep_drewN|apply keep_drew|apply keep_alloc|refine keep_far ?_ GW270.out _)|exact HK.out))):w.heap.size ≤ gb277):w0.heap.size ≤ gb277));have n8_:=Aside0.mk ((by rw [hg];exact Nat.ne_of_lt (blk_lt (g:=gb270) (o:=.cells #[.bool false,.bool false,.int .i64 0,.int .i64 0,.int .i64 0,.slice none 0 0] 34 (0,0)) (by (with_reducible repeat (first|refine blk_drewN ?_ _|refine blk_drew ?_|refine blk_alloc ?_ _));exact BK270.out)):gb270 ≠ gb277));have n9_:=Aside0.mk ((by rw [hg];exact Nat.ne_of_gt (blk_lt (g:=gb270) (o:=.cells #[.bool false,.bool false,.int .i64 0,.int .i64 0,.int .i64 0,.slice none 0 0] 34 (0,0)) (by (with_reducible repeat (first|refine blk_drewN ?_ _|refine blk_drew ?_|refine blk_alloc ?_ _));exact BK270.out)):gb277 ≠ gb270));have n10_:=Aside0.mk ((by rw [hg];exact Nat.ne_of_lt (IsS92.lt (show IsS92 w0 _ g s0_0 t276 from by repeat (first|(with_reducible first|exact HI0.out|apply IsS92.alloc|apply IsS92.drewN|apply IsS92.drew|apply IsS92.set_1|refine IsS92.far ?_ NB0_270.out _)|exact HI0.out))):g ≠ gb277));have n11_:=Aside0.mk ((by rw [hg];exact Nat.ne_of_gt (IsS92.lt (show IsS92 w0 _ g s0_0 t276 from by repeat (first|(with_reducible first|exact HI0.out|apply IsS92.alloc|apply IsS92.drewN|apply IsS92.drew|apply IsS92.set_1|refine IsS92.far ?_ NB0_270.out _)|exact HI0.out))):gb277 ≠ g));clear HO275 HI0 BK270 HK HB;have HO275:=n0_;have HI0:=n1_;have BK270:=n2_;have HK:=n3_;have HB:=n4_;have BK277:=n5_;have GW277:=n6_;have GE277:=n7_;have NB270_277:=n8_;have NB277_270:=n9_;have NB0_277:=n10_;have NB277_0:=n11_;clear n0_ n1_ n2_ n3_ n4_ n5_ n6_ n7_ n8_ n9_ n10_ n11_;clear hb hbox hg;have hnb12:=NB277_270.out;have hnc12:=NB270_277.out;have hnb13:=NB277_0.out;have hnc13:=NB0_277.out;have hcz14_0:w11.cell? ⟨gb277,0,none⟩=some (.bool false):=(blk_cell BK277.out 0).trans rfl;have hcz14_1:w11.cell? ⟨gb277,1,none⟩=some (.bool false):=(blk_cell BK277.out 1).trans rfl;have hcz14_2:w11.cell? ⟨gb277,2,none⟩=some (.int .i64 0):=(blk_cell BK277.out 2).trans rfl;have hcz14_3:w11.cell? ⟨gb277,3,none⟩=some (.int .i64 0):=(blk_cell BK277.out 3).trans rfl;have hcz14_4:w11.cell? ⟨gb277,4,none⟩=some (.int .i64 0):=(blk_cell BK277.out 4).trans rfl;have hcz14_5:w11.cell? ⟨gb277,5,none⟩=some (.slice none 0 0):=(blk_cell BK277.out 5).trans rfl;have hfz14_0:=blk_frozen BK277.out 0;have hfz14_1:=blk_frozen BK277.out 1;have hfz14_2:=blk_frozen BK277.out 2;have hfz14_3:=blk_frozen BK277.out 3;have hfz14_4:=blk_frozen BK277.out 4;have hfz14_5:=blk_frozen BK277.out 5)|((with_reducible refine gate_callee (f:=67) rfl ?_);refine goesL_ (some 14) rfl rfl Try.func67 (by kernel_rfl) rfl #[.pointer (some ⟨g,0,none⟩),.int .i64 3] rfl (by (try simp only [map_toArray,map_cons,map_nil]);first|done|rfl|(simp only [length_drop,length_take];rfl)) ?_;(with_reducible refine (spec_l6Rd_pick.calls k g s0_0 t276 3 t278 t279 w0 _ ?side1 ?side2 A5.out).mono ?_);(case side1=>repeat (first|(with_reducible first|exact HI0.out|apply IsS92.alloc|apply IsS92.drewN|apply IsS92.drew|apply IsS92.set_1|refine IsS92.far ?_ NB0_270.out _|refine IsS92.far ?_ NB0_277.out _)|exact HI0.out));(case side2=>repeat (first|(with_reducible first|exact HB.out|apply below_alloc|apply pw_below_drewN|apply below_drew1|refine below_set ?_ (IsS92.ge HI0.out)|refine below_set ?_ GE270.out|refine below_set ?_ GE277.out)|exact HB.out));rintro e w15 ⟨rfl,hi,hb,hk⟩;refine ⟨_,rfl,?_⟩;have n0_:=Aside0.mk (KeepBut.blk hk (g':=gb270) (o:=.cells #[.bool false,.bool false,.int .i64 0,.int .i64 0,.int .i64 0,.slice none 0 0] 34 (0,0)) (by (with_reducible repeat (first|refine blk_drewN ?_ _|refine blk_drew ?_|refine blk_alloc ?_ _));refine blk_far ?_ NB270_277.out _;(with_reducible repeat (first|refine blk_drewN ?_ _|refine blk_drew ?_|refine blk_alloc ?_ _));refine blk_far ?_ NB270_277.out _;(with_reducible repeat (first|refine blk_drewN ?_ _|refine blk_drew ?_|refine blk_alloc ?_ _));refine blk_far ?_ NB270_277.out _;(with_reducible repeat (first|refine blk_drewN ?_ _|refine blk_drew ?_|refine blk_alloc ?_ _));refine blk_far ?_ NB270_277.out _;(with_reducible repeat (first|refine blk_drewN ?_ _|refine blk_drew ?_|refine blk_alloc ?_ _));refine blk_far ?_ NB270_277.out _;(with_reducible repeat (first|refine blk_drewN ?_ _|refine blk_drew ?_|refine blk_alloc ?_ _));refine blk_far ?_ NB270_277.out _;(with_reducible repeat (first|refine blk_drewN ?_ _|refine blk_drew ?_|refine blk_alloc ?_ _));exact BK270.out) NB270_0.out (by simp));have n1_:=Aside0.mk (Kd.N_mono (Kd.N_keep (Kd.N_mono (ok:=fun k_=>((((w.heap.size ≤ k_))∧(k_ ≠ gb270∧k_ ≠ g))∧k_ ≠ gb277)) (by (with_reducible repeat (first|apply Kd.N_alloc|apply Kd.N_drewN|apply Kd.N_drew));exact (Kd.N_mono (Kd.N_far (p:=⟨gb277,5,none⟩) (Kd.N_far (p:=⟨gb277,4,none⟩) (Kd.N_far (p:=⟨gb277,3,none⟩) (Kd.N_far (p:=⟨gb277,2,none⟩) (Kd.N_far (p:=⟨gb277,1,none⟩) (Kd.N_far (p:=⟨gb277,0,none⟩) (Kd.N_mono HO275.out (fun k_ hk=>(⟨hk,hk.2⟩:_∧k_ ≠ gb277))) (fun _ hk=>hk.2) (.bool (t271 == 0))) (fun _ hk=>hk.2) (.bool false)) (fun _ hk=>hk.2) (.int .i64 255)) (fun _ hk=>hk.2) (.int .i64 0)) (fun _ hk=>hk.2) (.int .i64 0)) (fun _ hk=>hk.2) (.slice Ao10 t273.length co10)) (fun _ h_=>h_.1))) (fun k_ hk_=>(⟨hk_,hk_.1.2.2⟩:_∧k_ ≠ g))) hk (fun _ h=>h.2)) (fun _ h=>h.1));have n2_:=Aside0.mk (KeepBut.blk hk (g':=gb277) (o:=.cells #[.bool (t271 == 0),.bool false,.int .i64 255,.int .i64 0,.int .i64 0,.slice Ao10 t273.length co10] 34 (0,0)) (by (with_reducible repeat (first|refine blk_drewN ?_ _|refine blk_drew ?_|refine blk_alloc ?_ _));refine blk_put (cs:=#[.bool (t271 == 0),.bool false,.int .i64 255,.int .i64 0,.int .i64 0,.slice none 0 0]) ?_ 5 _ rfl;(with_reducible repeat (first|refine blk_drewN ?_ _|refine blk_drew ?_|refine blk_alloc ?_ _));refine blk_put (cs:=#[.bool (t271 == 0),.bool false,.int .i64 255,.int .i64 0,.int .i64 0,.slice none 0 0]) ?_ 4 _ rfl;(with_reducible repeat (first|refine blk_drewN ?_ _|refine blk_drew ?_|refine blk_alloc ?_ _));refine blk_put (cs:=#[.bool (t271 == 0),.bool false,.int .i64 255,.int .i64 0,.int .i64 0,.slice none 0 0]) ?_ 3 _ rfl;(with_reducible repeat (first|refine blk_drewN ?_ _|refine blk_drew ?_|refine blk_alloc ?_ _));refine blk_put (cs:=#[.bool (t271 == 0),.bool false,.int .i64 0,.int .i64 0,.int .i64 0,.slice none 0 0]) ?_ 2 _ rfl;(with_reducible repeat (first|refine blk_drewN ?_ _|refine blk_drew ?_|refine blk_alloc ?_ _));refine blk_put (cs:=#[.bool (t271 == 0),.bool false,.int .i64 0,.int .i64 0,.int .i64 0,.slice none 0 0]) ?_ 1 _ rfl;(with_reducible repeat (first|refine blk_drewN ?_ _|refine blk_drew ?_|refine blk_alloc ?_ _));refine blk_put (cs:=#[.bool false,.bool false,.int .i64 0,.int .i64 0,.int .i64 0,.slice none 0 0]) ?_ 0 _ rfl;(with_reducible repeat (first|refine blk_drewN ?_ _|refine blk_drew ?_|refine blk_alloc ?_ _));exact BK277.out) NB277_0.out (by simp));have n3_:=Aside0.mk (KeepBut.trans (by repeat (first|(with_reducible first|exact HK.out|apply KeepBut.set_|apply keep_drewN|apply keep_drew|apply keep_alloc|refine keep_far ?_ GW270.out _|refine keep_far ?_ GW277.out _)|exact HK.out)) hk (.inl rfl));have n4_:=Aside0.mk (hb);have n5_:=Aside0.mk (hi);clear BK270 HO275 BK277 HK HB HI0;have BK270:=n0_;have HO275:=n1_;have BK277:=n2_;have HK:=n3_;have HB:=n4_;have HI0:=n5_;clear n0_ n1_ n2_ n3_ n4_ n5_;(try clear hb);(try clear hb2);(try clear hk);(try clear hi)))
 (try simp only [Act.put,setIfInBounds_toArray,set_cons_zero,set_cons_succ])
 go_cut [] (fun wc=>∃ (kq:Nat) (x1001_5:Int) (x278001_5:Bool) (x278002_5:Int) (x278003_5:Int) (x278004_5:Int) (x278005_5:List (S79)) (u278005:Value),Aside0 (spec_l91Batch.j0 kq s0_0 x1001_5 (t271 == 0) x278001_5 x278002_5 x278003_5 x278004_5 x278005_5=some (r1,r2,r3,r4,r5,r6,r7))∧Aside0 (kq ≤ k)∧Aside0 (Kd.N k79 79 wc w.heap.size (fun k_=>(w.heap.size ≤ k_)∧k_ ≠ gb270∧k_ ≠ gb277∧k_ ≠ g) u278005 x278005_5)∧Aside0 (wc.heap[gb270]? = some (.cells #[.bool false,.bool false,.int .i64 0,.int .i64 0,.int .i64 0,(.slice none 0 0)] 34 (0,0)))∧Aside0 (wc.heap[gb277]? = some (.cells #[.bool (t271 == 0),.bool x278001_5,.int .i64 x278002_5,.int .i64 x278003_5,.int .i64 x278004_5,u278005] 34 (0,0)))∧Aside0 (IsS92 w0 wc g s0_0 x1001_5)∧Aside0 (KeepBut w wc g none)∧Aside0 (Below w0.heap.size w0 wc))
 case first=>
  have H:=HC6.out
  clear HC6
  by_cases c16:t278=0
  ·rw [if_pos c16] at H
   have c16b0:(t278 == 0)=true:=beq_iff_eq.mpr c16
   have c16b1:(t278 != 0)=false:=bne_eq_false_iff_eq.mpr c16
   clear c16
   (first|rw [c16b0]|(simp only [i64_w,i32_w];rw [c16b0])|skip)
   replace H:=Option.bind_eq_some_iff.mp H
   obtain ⟨⟨t280,t281⟩,A170,H⟩:=H
   replace H:((spec_l6Rd_pick.f k s0_0 t281 3).bind fun bt282=>((spec_l6Rd_pick.f k s0_0 bt282.2 5).bind fun bt284=>((spec_l6Rd_pick.f k s0_0 bt284.2 3).bind fun bt286=>(if bt286.1=0 then ((spec_l6Rd_pick.f k s0_0 bt286.2 200).bind fun bt288=>((spec_l6Rd_pick.f k s0_0 bt288.2 2).bind fun bt293=>(spec_l91Batch.j0 k s0_0 bt293.2 (t271 == 0) true t280 bt282.1 bt284.1 (([(⟨a1,bt288.1,false,(([]:List Int)),true,(([bt293.1]:List Int))⟩:S79)]:List (S79)))))) else (spec_l91Batch.j0 k s0_0 bt286.2 (t271 == 0) false t280 bt282.1 bt284.1 t273)))))=some (r1,r2,r3,r4,r5,r6,r7):=H
   have A17:=Aside0.mk A170
   clear A170
   replace H:=Option.bind_eq_some_iff.mp H
   obtain ⟨⟨t282,t283⟩,A180,H⟩:=H
   replace H:((spec_l6Rd_pick.f k s0_0 t283 5).bind fun bt284=>((spec_l6Rd_pick.f k s0_0 bt284.2 3).bind fun bt286=>(if bt286.1=0 then ((spec_l6Rd_pick.f k s0_0 bt286.2 200).bind fun bt288=>((spec_l6Rd_pick.f k s0_0 bt288.2 2).bind fun bt293=>(spec_l91Batch.j0 k s0_0 bt293.2 (t271 == 0) true t280 t282 bt284.1 (([(⟨a1,bt288.1,false,(([]:List Int)),true,(([bt293.1]:List Int))⟩:S79)]:List (S79)))))) else (spec_l91Batch.j0 k s0_0 bt286.2 (t271 == 0) false t280 t282 bt284.1 t273))))=some (r1,r2,r3,r4,r5,r6,r7):=H
   have A18:=Aside0.mk A180
   clear A180
   replace H:=Option.bind_eq_some_iff.mp H
   obtain ⟨⟨t284,t285⟩,A190,H⟩:=H
   replace H:((spec_l6Rd_pick.f k s0_0 t285 3).bind fun bt286=>(if bt286.1=0 then ((spec_l6Rd_pick.f k s0_0 bt286.2 200).bind fun bt288=>((spec_l6Rd_pick.f k s0_0 bt288.2 2).bind fun bt293=>(spec_l91Batch.j0 k s0_0 bt293.2 (t271 == 0) true t280 t282 t284 (([(⟨a1,bt288.1,false,(([]:List Int)),true,(([bt293.1]:List Int))⟩:S79)]:List (S79)))))) else (spec_l91Batch.j0 k s0_0 bt286.2 (t271 == 0) false t280 t282 t284 t273)))=some (r1,r2,r3,r4,r5,r6,r7):=H
   have A19:=Aside0.mk A190
   clear A190
   replace H:=Option.bind_eq_some_iff.mp H
   obtain ⟨⟨t286,t287⟩,A200,H⟩:=H
   replace H:(if t286=0 then ((spec_l6Rd_pick.f k s0_0 t287 200).bind fun bt288=>((spec_l6Rd_pick.f k s0_0 bt288.2 2).bind fun bt293=>(spec_l91Batch.j0 k s0_0 bt293.2 (t271 == 0) true t280 t282 t284 (([(⟨a1,bt288.1,false,(([]:List Int)),true,(([bt293.1]:List Int))⟩:S79)]:List (S79)))))) else (spec_l91Batch.j0 k s0_0 t287 (t271 == 0) false t280 t282 t284 t273))=some (r1,r2,r3,r4,r5,r6,r7):=H
   have A20:=Aside0.mk A200
   clear A200
   by_cases c21:t286=0
   ·rw [if_pos c21] at H
    have c21b0:(t286 == 0)=true:=beq_iff_eq.mpr c21
    have c21b1:(t286 != 0)=false:=bne_eq_false_iff_eq.mpr c21
    clear c21
    replace H:=Option.bind_eq_some_iff.mp H
    obtain ⟨⟨t288,t289⟩,A220,H⟩:=H
    replace H:((spec_l6Rd_pick.f k s0_0 t289 2).bind fun bt293=>(spec_l91Batch.j0 k s0_0 bt293.2 (t271 == 0) true t280 t282 t284 (([(⟨a1,t288,false,(([]:List Int)),true,(([bt293.1]:List Int))⟩:S79)]:List (S79)))))=some (r1,r2,r3,r4,r5,r6,r7):=H
    have A22:=Aside0.mk A220
    clear A220
    obtain ⟨y290,hy290⟩:∃ y_:List Int,y_=(([]:List Int)):=⟨_,rfl⟩
    replace H:((spec_l6Rd_pick.f k s0_0 t289 2).bind fun bt293=>(spec_l91Batch.j0 k s0_0 bt293.2 (t271 == 0) true t280 t282 t284 (([(⟨a1,t288,false,y290,true,(([bt293.1]:List Int))⟩:S79)]:List (S79)))))=some (r1,r2,r3,r4,r5,r6,r7):=by first|(rw [hy290];with_reducible exact H)|(have H2_:=(Option.bind_some _ _).symm.trans H;rw [hy290];with_reducible exact H2_)|(have H2_:=(Option.bind_some _ _).symm.trans H;with_reducible exact H2_)|with_reducible exact H|(rw [hy290];exact H)|exact H
    have Ny290:=Aside0.mk hy290
    clear hy290
    replace H:=Option.bind_eq_some_iff.mp H
    obtain ⟨⟨t293,t294⟩,A230,H⟩:=H
    replace H:(spec_l91Batch.j0 k s0_0 t294 (t271 == 0) true t280 t282 t284 (([(⟨a1,t288,false,y290,true,(([t293]:List Int))⟩:S79)]:List (S79))))=some (r1,r2,r3,r4,r5,r6,r7):=H
    have A23:=Aside0.mk A230
    clear A230
    obtain ⟨y295,hy295⟩:∃ y_:List Int,y_=(([t293]:List Int)):=⟨_,rfl⟩
    replace H:(spec_l91Batch.j0 k s0_0 t294 (t271 == 0) true t280 t282 t284 (([(⟨a1,t288,false,y290,true,y295⟩:S79)]:List (S79))))=some (r1,r2,r3,r4,r5,r6,r7):=by first|(rw [hy295];with_reducible exact H)|(have H2_:=(Option.bind_some _ _).symm.trans H;rw [hy295];with_reducible exact H2_)|(have H2_:=(Option.bind_some _ _).symm.trans H;with_reducible exact H2_)|with_reducible exact H|(rw [hy295];exact H)|exact H
    have Ny295:=Aside0.mk hy295
    clear hy295
    obtain ⟨y298,hy298⟩:∃ y_:List (S79),y_=(([(⟨a1,t288,false,y290,true,y295⟩:S79)]:List (S79))):=⟨_,rfl⟩
    replace H:(spec_l91Batch.j0 k s0_0 t294 (t271 == 0) true t280 t282 t284 y298)=some (r1,r2,r3,r4,r5,r6,r7):=by first|(rw [hy298];with_reducible exact H)|(have H2_:=(Option.bind_some _ _).symm.trans H;rw [hy298];with_reducible exact H2_)|(have H2_:=(Option.bind_some _ _).symm.trans H;with_reducible exact H2_)|with_reducible exact H|(rw [hy298];exact H)|exact H
    have Ny298:=Aside0.mk hy298
    clear hy298
    have H':=Aside0.mk H
    clear H
    go_wp2_with (first|((with_reducible refine gate_callee (f:=67) rfl ?_);refine goesL_ (some 17) rfl rfl Try.func67 (by kernel_rfl) rfl #[.pointer (some ⟨g,0,none⟩),.int .i64 3] rfl (by (try simp only [map_toArray,map_cons,map_nil]);first|done|rfl|(simp only [length_drop,length_take];rfl)) ?_;(with_reducible refine (spec_l6Rd_pick.calls k g s0_0 t279 3 t280 t281 w0 _ ?side1 ?side2 A17.out).mono ?_);(case side1=>repeat (first|(with_reducible first|exact HI0.out|apply IsS92.alloc|apply IsS92.drewN|apply IsS92.drew|apply IsS92.set_1|refine IsS92.far ?_ NB0_270.out _|refine IsS92.far ?_ NB0_277.out _)|exact HI0.out));(case side2=>repeat (first|(with_reducible first|exact HB.out|apply below_alloc|apply pw_below_drewN|apply below_drew1|refine below_set ?_ (IsS92.ge HI0.out)|refine below_set ?_ GE270.out|refine below_set ?_ GE277.out)|exact HB.out));rintro e w24 ⟨rfl,hi,hb,hk⟩;refine ⟨_,rfl,?_⟩;have n0_:=Aside0.mk (KeepBut.blk hk (g':=gb270) (o:=.cells #[.bool false,.bool false,.int .i64 0,.int .i64 0,.int .i64 0,.slice none 0 0] 34 (0,0)) (by (with_reducible repeat (first|refine blk_drewN ?_ _|refine blk_drew ?_|refine blk_alloc ?_ _));exact BK270.out) NB270_0.out (by simp));have n1_:=Aside0.mk (Kd.N_mono (Kd.N_keep (Kd.N_mono (ok:=fun k_=>((((w.heap.size ≤ k_))∧(k_ ≠ gb270∧k_ ≠ g))∧k_ ≠ gb277)) (by (with_reducible repeat (first|apply Kd.N_alloc|apply Kd.N_drewN|apply Kd.N_drew));exact HO275.out) (fun k_ hk_=>(⟨hk_,hk_.1.2.2⟩:_∧k_ ≠ g))) hk (fun _ h=>h.2)) (fun _ h=>h.1));have n2_:=Aside0.mk (KeepBut.blk hk (g':=gb277) (o:=.cells #[.bool (t271 == 0),.bool false,.int .i64 255,.int .i64 0,.int .i64 0,.slice Ao10 t273.length co10] 34 (0,0)) (by (with_reducible repeat (first|refine blk_drewN ?_ _|refine blk_drew ?_|refine blk_alloc ?_ _));exact BK277.out) NB277_0.out (by simp));have n3_:=Aside0.mk (KeepBut.trans (by repeat (first|(with_reducible first|exact HK.out|apply KeepBut.set_|apply keep_drewN|apply keep_drew|apply keep_alloc|refine keep_far ?_ GW270.out _|refine keep_far ?_ GW277.out _)|exact HK.out)) hk (.inl rfl));have n4_:=Aside0.mk (hb);have n5_:=Aside0.mk (hi);clear BK270 HO275 BK277 HK HB HI0;have BK270:=n0_;have HO275:=n1_;have BK277:=n2_;have HK:=n3_;have HB:=n4_;have HI0:=n5_;clear n0_ n1_ n2_ n3_ n4_ n5_;(try clear hb);(try clear hb2);(try clear hk);(try clear hi);have hnb25:=NB277_270.out;have hnc25:=NB270_277.out;have hnb26:=NB277_0.out;have hnc26:=NB0_277.out;have hcz27_0:w24.cell? ⟨gb277,0,none⟩=some (.bool (t271 == 0)):=(blk_cell BK277.out 0).trans rfl;have hcz27_1:w24.cell? ⟨gb277,1,none⟩=some (.bool false):=(blk_cell BK277.out 1).trans rfl;have hcz27_2:w24.cell? ⟨gb277,2,none⟩=some (.int .i64 255):=(blk_cell BK277.out 2).trans rfl;have hcz27_3:w24.cell? ⟨gb277,3,none⟩=some (.int .i64 0):=(blk_cell BK277.out 3).trans rfl;have hcz27_4:w24.cell? ⟨gb277,4,none⟩=some (.int .i64 0):=(blk_cell BK277.out 4).trans rfl;have hcz27_5:w24.cell? ⟨gb277,5,none⟩=some (.slice Ao10 t273.length co10):=(blk_cell BK277.out 5).trans rfl;have hfz27_0:=blk_frozen BK277.out 0;have hfz27_1:=blk_frozen BK277.out 1;have hfz27_2:=blk_frozen BK277.out 2;have hfz27_3:=blk_frozen BK277.out 3;have hfz27_4:=blk_frozen BK277.out 4;have hfz27_5:=blk_frozen BK277.out 5)|((with_reducible refine gate_callee (f:=67) rfl ?_);refine goesL_ (some 20) rfl rfl Try.func67 (by kernel_rfl) rfl #[.pointer (some ⟨g,0,none⟩),.int .i64 3] rfl (by (try simp only [map_toArray,map_cons,map_nil]);first|done|rfl|(simp only [length_drop,length_take];rfl)) ?_;(with_reducible refine (spec_l6Rd_pick.calls k g s0_0 t281 3 t282 t283 w0 _ ?side1 ?side2 A18.out).mono ?_);(case side1=>repeat (first|(with_reducible first|exact HI0.out|apply IsS92.alloc|apply IsS92.drewN|apply IsS92.drew|apply IsS92.set_1|refine IsS92.far ?_ NB0_270.out _|refine IsS92.far ?_ NB0_277.out _)|exact HI0.out));(case side2=>repeat (first|(with_reducible first|exact HB.out|apply below_alloc|apply pw_below_drewN|apply below_drew1|refine below_set ?_ (IsS92.ge HI0.out)|refine below_set ?_ GE270.out|refine below_set ?_ GE277.out)|exact HB.out));rintro e w28 ⟨rfl,hi,hb,hk⟩;refine ⟨_,rfl,?_⟩;have n0_:=Aside0.mk (KeepBut.blk hk (g':=gb270) (o:=.cells #[.bool false,.bool false,.int .i64 0,.int .i64 0,.int .i64 0,.slice none 0 0] 34 (0,0)) (by (with_reducible repeat (first|refine blk_drewN ?_ _|refine blk_drew ?_|refine blk_alloc ?_ _));refine blk_far ?_ NB270_277.out _;(with_reducible repeat (first|refine blk_drewN ?_ _|refine blk_drew ?_|refine blk_alloc ?_ _));exact BK270.out) NB270_0.out (by simp));have n1_:=Aside0.mk (Kd.N_mono (Kd.N_keep (Kd.N_mono (ok:=fun k_=>((((w.heap.size ≤ k_))∧(k_ ≠ gb270∧k_ ≠ g))∧k_ ≠ gb277)) (by (with_reducible repeat (first|apply Kd.N_alloc|apply Kd.N_drewN|apply Kd.N_drew));exact (Kd.N_mono (Kd.N_far (p:=⟨gb277,2,none⟩) (Kd.N_mono HO275.out (fun k_ hk=>(⟨hk,hk.2⟩:_∧k_ ≠ gb277))) (fun _ hk=>hk.2) (.int .i64 t280)) (fun _ h_=>h_.1))) (fun k_ hk_=>(⟨hk_,hk_.1.2.2⟩:_∧k_ ≠ g))) hk (fun _ h=>h.2)) (fun _ h=>h.1));have n2_:=Aside0.mk (KeepBut.blk hk (g':=gb277) (o:=.cells #[.bool (t271 == 0),.bool false,.int .i64 t280,.int .i64 0,.int .i64 0,.slice Ao10 t273.length co10] 34 (0,0)) (by (with_reducible repeat (first|refine blk_drewN ?_ _|refine blk_drew ?_|refine blk_alloc ?_ _));refine blk_put (cs:=#[.bool (t271 == 0),.bool false,.int .i64 255,.int .i64 0,.int .i64 0,.slice Ao10 t273.length co10]) ?_ 2 _ rfl;(with_reducible repeat (first|refine blk_drewN ?_ _|refine blk_drew ?_|refine blk_alloc ?_ _));exact BK277.out) NB277_0.out (by simp));have n3_:=Aside0.mk (KeepBut.trans (by repeat (first|(with_reducible first|exact HK.out|apply KeepBut.set_|apply keep_drewN|apply keep_drew|apply keep_alloc|refine keep_far ?_ GW270.out _|refine keep_far ?_ GW277.out _)|exact HK.out)) hk (.inl rfl));have n4_:=Aside0.mk (hb);have n5_:=Aside0.mk (hi);clear BK270 HO275 BK277 HK HB HI0;have BK270:=n0_;have HO275:=n1_;have BK277:=n2_;have HK:=n3_;have HB:=n4_;have HI0:=n5_;clear n0_ n1_ n2_ n3_ n4_ n5_;(try clear hb);(try clear hb2);(try clear hk);(try clear hi);have hcz29_0:w28.cell? ⟨gb277,0,none⟩=some (.bool (t271 == 0)):=(blk_cell BK277.out 0).trans rfl;have hcz29_1:w28.cell? ⟨gb277,1,none⟩=some (.bool false):=(blk_cell BK277.out 1).trans rfl;have hcz29_2:w28.cell? ⟨gb277,2,none⟩=some (.int .i64 t280):=(blk_cell BK277.out 2).trans rfl;have hcz29_3:w28.cell? ⟨gb277,3,none⟩=some (.int .i64 0):=(blk_cell BK277.out 3).trans rfl;have hcz29_4:w28.cell? ⟨gb277,4,none⟩=some (.int .i64 0):=(blk_cell BK277.out 4).trans rfl;have hcz29_5:w28.cell? ⟨gb277,5,none⟩=some (.slice Ao10 t273.length co10):=(blk_cell BK277.out 5).trans rfl;have hfz29_0:=blk_frozen BK277.out 0;have hfz29_1:=blk_frozen BK277.out 1;have hfz29_2:=blk_frozen BK277.out 2;have hfz29_3:=blk_frozen BK277.out 3;have hfz29_4:=blk_frozen BK277.out 4;have hfz29_5:=blk_frozen BK277.out 5)|((with_reducible refine gate_callee (f:=67) rfl ?_);refine goesL_ (some 23) rfl rfl Try.func67 (by kernel_rfl) rfl #[.pointer (some ⟨g,0,none⟩),.int .i64 5] rfl (by (try simp only [map_toArray,map_cons,map_nil]);first|done|rfl|(simp only [length_drop,length_take];rfl)) ?_;(with_reducible refine (spec_l6Rd_pick.calls k g s0_0 t283 5 t284 t285 w0 _ ?side1 ?side2 A19.out).mono ?_);(case side1=>repeat (first|(with_reducible first|exact HI0.out|apply IsS92.alloc|apply IsS92.drewN|apply IsS92.drew|apply IsS92.set_1|refine IsS92.far ?_ NB0_270.out _|refine IsS92.far ?_ NB0_277.out _)|exact HI0.out));(case side2=>repeat (first|(with_reducible first|exact HB.out|apply below_alloc|apply pw_below_drewN|apply below_drew1|refine below_set ?_ (IsS92.ge HI0.out)|refine below_set ?_ GE270.out|refine below_set ?_ GE277.out)|exact HB.out));rintro e w30 ⟨rfl,hi,hb,hk⟩;refine ⟨_,rfl,?_⟩;have n0_:=Aside0.mk (KeepBut.blk hk (g':=gb270) (o:=.cells #[.bool false,.bool false,.int .i64 0,.int .i64 0,.int .i64 0,.slice none 0 0] 34 (0,0)) (by (with_reducible repeat (first|refine blk_drewN ?_ _|refine blk_drew ?_|refine blk_alloc ?_ _));refine blk_far ?_ NB270_277.out _;(with_reducible repeat (first|refine blk_drewN ?_ _|refine blk_drew ?_|refine blk_alloc ?_ _));exact BK270.out) NB270_0.out (by simp));have n1_:=Aside0.mk (Kd.N_mono (Kd.N_keep (Kd.N_mono (ok:=fun k_=>((((w.heap.size ≤ k_))∧(k_ ≠ gb270∧k_ ≠ g))∧k_ ≠ gb277)) (by (with_reducible repeat (first|apply Kd.N_alloc|apply Kd.N_drewN|apply Kd.N_drew));exact (Kd.N_mono (Kd.N_far (p:=⟨gb277,3,none⟩) (Kd.N_mono HO275.out (fun k_ hk=>(⟨hk,hk.2⟩:_∧k_ ≠ gb277))) (fun _ hk=>hk.2) (.int .i64 t282)) (fun _ h_=>h_.1))) (fun k_ hk_=>(⟨hk_,hk_.1.2.2⟩:_∧k_ ≠ g))) hk (fun _ h=>h.2)) (fun _ h=>h.1));have n2_:=Aside0.mk (KeepBut.blk hk (g':=gb277) (o:=.cells #[.bool (t271 == 0),.bool false,.int .i64 t280,.int .i64 t282,.int .i64 0,.slice Ao10 t273.length co10] 34 (0,0)) (by (with_reducible repeat (first|refine blk_drewN ?_ _|refine blk_drew ?_|refine blk_alloc ?_ _));refine blk_put (cs:=#[.bool (t271 == 0),.bool false,.int .i64 t280,.int .i64 0,.int .i64 0,.slice Ao10 t273.length co10]) ?_ 3 _ rfl;(with_reducible repeat (first|refine blk_drewN ?_ _|refine blk_drew ?_|refine blk_alloc ?_ _));exact BK277.out) NB277_0.out (by simp));have n3_:=Aside0.mk (KeepBut.trans (by repeat (first|(with_reducible first|exact HK.out|apply KeepBut.set_|apply keep_drewN|apply keep_drew|apply keep_alloc|refine keep_far ?_ GW270.out _|refine keep_far ?_ GW277.out _)|exact HK.out)) hk (.inl rfl));have n4_:=Aside0.mk (hb);have n5_:=Aside0.mk (hi);clear BK270 HO275 BK277 HK HB HI0;have BK270:=n0_;have HO275:=n1_;have BK277:=n2_;have HK:=n3_;have HB:=n4_;have HI0:=n5_;clear n0_ n1_ n2_ n3_ n4_ n5_;(try clear hb);(try clear hb2);(try clear hk);(try clear hi);have hcz31_0:w30.cell? ⟨gb277,0,none⟩=some (.bool (t271 == 0)):=(blk_cell BK277.out 0).trans rfl;have hcz31_1:w30.cell? ⟨gb277,1,none⟩=some (.bool false):=(blk_cell BK277.out 1).trans rfl;have hcz31_2:w30.cell? ⟨gb277,2,none⟩=some (.int .i64 t280):=(blk_cell BK277.out 2).trans rfl;have hcz31_3:w30.cell? ⟨gb277,3,none⟩=some (.int .i64 t282):=(blk_cell BK277.out 3).trans rfl;have hcz31_4:w30.cell? ⟨gb277,4,none⟩=some (.int .i64 0):=(blk_cell BK277.out 4).trans rfl;have hcz31_5:w30.cell? ⟨gb277,5,none⟩=some (.slice Ao10 t273.length co10):=(blk_cell BK277.out 5).trans rfl;have hfz31_0:=blk_frozen BK277.out 0;have hfz31_1:=blk_frozen BK277.out 1;have hfz31_2:=blk_frozen BK277.out 2;have hfz31_3:=blk_frozen BK277.out 3;have hfz31_4:=blk_frozen BK277.out 4;have hfz31_5:=blk_frozen BK277.out 5)|((with_reducible refine gate_callee (f:=67) rfl ?_);refine goesL_ (some 26) rfl rfl Try.func67 (by kernel_rfl) rfl #[.pointer (some ⟨g,0,none⟩),.int .i64 3] rfl (by (try simp only [map_toArray,map_cons,map_nil]);first|done|rfl|(simp only [length_drop,length_take];rfl)) ?_;(with_reducible refine (spec_l6Rd_pick.calls k g s0_0 t285 3 t286 t287 w0 _ ?side1 ?side2 A20.out).mono ?_);(case side1=>repeat (first|(with_reducible first|exact HI0.out|apply IsS92.alloc|apply IsS92.drewN|apply IsS92.drew|apply IsS92.set_1|refine IsS92.far ?_ NB0_270.out _|refine IsS92.far ?_ NB0_277.out _)|exact HI0.out));(case side2=>repeat (first|(with_reducible first|exact HB.out|apply below_alloc|apply pw_below_drewN|apply below_drew1|refine below_set ?_ (IsS92.ge HI0.out)|refine below_set ?_ GE270.out|refine below_set ?_ GE277.out)|exact HB.out));rintro e w32 ⟨rfl,hi,hb,hk⟩;refine ⟨_,rfl,?_⟩;have n0_:=Aside0.mk (KeepBut.blk hk (g':=gb270) (o:=.cells #[.bool false,.bool false,.int .i64 0,.int .i64 0,.int .i64 0,.slice none 0 0] 34 (0,0)) (by (with_reducible repeat (first|refine blk_drewN ?_ _|refine blk_drew ?_|refine blk_alloc ?_ _));refine blk_far ?_ NB270_277.out _;(with_reducible repeat (first|refine blk_drewN ?_ _|refine blk_drew ?_|refine blk_alloc ?_ _));exact BK270.out) NB270_0.out (by simp));have n1_:=Aside0.mk (Kd.N_mono (Kd.N_keep (Kd.N_mono (ok:=fun k_=>((((w.heap.size ≤ k_))∧(k_ ≠ gb270∧k_ ≠ g))∧k_ ≠ gb277)) (by (with_reducible repeat (first|apply Kd.N_alloc|apply Kd.N_drewN|apply Kd.N_drew));exact (Kd.N_mono (Kd.N_far (p:=⟨gb277,4,none⟩) (Kd.N_mono HO275.out (fun k_ hk=>(⟨hk,hk.2⟩:_∧k_ ≠ gb277))) (fun _ hk=>hk.2) (.int .i64 t284)) (fun _ h_=>h_.1))) (fun k_ hk_=>(⟨hk_,hk_.1.2.2⟩:_∧k_ ≠ g))) hk (fun _ h=>h.2)) (fun _ h=>h.1));have n2_:=Aside0.mk (KeepBut.blk hk (g':=gb277) (o:=.cells #[.bool (t271 == 0),.bool false,.int .i64 t280,.int .i64 t282,.int .i64 t284,.slice Ao10 t273.length co10] 34 (0,0)) (by (with_reducible repeat (first|refine blk_drewN ?_ _|refine blk_drew ?_|refine blk_alloc ?_ _));refine blk_put (cs:=#[.bool (t271 == 0),.bool false,.int .i64 t280,.int .i64 t282,.int .i64 0,.slice Ao10 t273.length co10]) ?_ 4 _ rfl;(with_reducible repeat (first|refine blk_drewN ?_ _|refine blk_drew ?_|refine blk_alloc ?_ _));exact BK277.out) NB277_0.out (by simp));have n3_:=Aside0.mk (KeepBut.trans (by repeat (first|(with_reducible first|exact HK.out|apply KeepBut.set_|apply keep_drewN|apply keep_drew|apply keep_alloc|refine keep_far ?_ GW270.out _|refine keep_far ?_ GW277.out _)|exact HK.out)) hk (.inl rfl));have n4_:=Aside0.mk (hb);have n5_:=Aside0.mk (hi);clear BK270 HO275 BK277 HK HB HI0;have BK270:=n0_;have HO275:=n1_;have BK277:=n2_;have HK:=n3_;have HB:=n4_;have HI0:=n5_;clear n0_ n1_ n2_ n3_ n4_ n5_;(try clear hb);(try clear hb2);(try clear hk);(try clear hi);have hcz33_0:w32.cell? ⟨gb277,0,none⟩=some (.bool (t271 == 0)):=(blk_cell BK277.out 0).trans rfl;have hcz33_1:w32.cell? ⟨gb277,1,none⟩=some (.bool false):=(blk_cell BK277.out 1).trans rfl;have hcz33_2:w32.cell? ⟨gb277,2,none⟩=some (.int .i64 t280):=(blk_cell BK277.out 2).trans rfl;have hcz33_3:w32.cell? ⟨gb277,3,none⟩=some (.int .i64 t282):=(blk_cell BK277.out 3).trans rfl;have hcz33_4:w32.cell? ⟨gb277,4,none⟩=some (.int .i64 t284):=(blk_cell BK277.out 4).trans rfl;have hcz33_5:w32.cell? ⟨gb277,5,none⟩=some (.slice Ao10 t273.length co10):=(blk_cell BK277.out 5).trans rfl;have hfz33_0:=blk_frozen BK277.out 0;have hfz33_1:=blk_frozen BK277.out 1;have hfz33_2:=blk_frozen BK277.out 2;have hfz33_3:=blk_frozen BK277.out 3;have hfz33_4:=blk_frozen BK277.out 4;have hfz33_5:=blk_frozen BK277.out 5)|((with_reducible refine gate_callee (f:=67) rfl ?_);refine goesL_ (some 31) rfl rfl Try.func67 (by kernel_rfl) rfl #[.pointer (some ⟨g,0,none⟩),.int .i64 200] rfl (by (try simp only [map_toArray,map_cons,map_nil]);first|done|rfl|(simp only [length_drop,length_take];rfl)) ?_;(with_reducible refine (spec_l6Rd_pick.calls k g s0_0 t287 200 t288 t289 w0 _ ?side1 ?side2 A22.out).mono ?_);(case side1=>repeat (first|(with_reducible first|exact HI0.out|apply IsS92.alloc|apply IsS92.drewN|apply IsS92.drew|apply IsS92.set_1|refine IsS92.far ?_ NB0_270.out _|refine IsS92.far ?_ NB0_277.out _)|exact HI0.out));(case side2=>repeat (first|(with_reducible first|exact HB.out|apply below_alloc|apply pw_below_drewN|apply below_drew1|refine below_set ?_ (IsS92.ge HI0.out)|refine below_set ?_ GE270.out|refine below_set ?_ GE277.out)|exact HB.out));rintro e w34 ⟨rfl,hi,hb,hk⟩;refine ⟨_,rfl,?_⟩;have n0_:=Aside0.mk (KeepBut.blk hk (g':=gb270) (o:=.cells #[.bool false,.bool false,.int .i64 0,.int .i64 0,.int .i64 0,.slice none 0 0] 34 (0,0)) (by (with_reducible repeat (first|refine blk_drewN ?_ _|refine blk_drew ?_|refine blk_alloc ?_ _));refine blk_far ?_ NB270_277.out _;(with_reducible repeat (first|refine blk_drewN ?_ _|refine blk_drew ?_|refine blk_alloc ?_ _));exact BK270.out) NB270_0.out (by simp));have n1_:=Aside0.mk (Kd.N_mono (Kd.N_keep (Kd.N_mono (ok:=fun k_=>((((w.heap.size ≤ k_))∧(k_ ≠ gb270∧k_ ≠ g))∧k_ ≠ gb277)) (by (with_reducible repeat (first|apply Kd.N_alloc|apply Kd.N_drewN|apply Kd.N_drew));exact (Kd.N_mono (Kd.N_far (p:=⟨gb277,1,none⟩) (Kd.N_mono HO275.out (fun k_ hk=>(⟨hk,hk.2⟩:_∧k_ ≠ gb277))) (fun _ hk=>hk.2) (.bool true)) (fun _ h_=>h_.1))) (fun k_ hk_=>(⟨hk_,hk_.1.2.2⟩:_∧k_ ≠ g))) hk (fun _ h=>h.2)) (fun _ h=>h.1));have n2_:=Aside0.mk (KeepBut.blk hk (g':=gb277) (o:=.cells #[.bool (t271 == 0),.bool true,.int .i64 t280,.int .i64 t282,.int .i64 t284,.slice Ao10 t273.length co10] 34 (0,0)) (by (with_reducible repeat (first|refine blk_drewN ?_ _|refine blk_drew ?_|refine blk_alloc ?_ _));refine blk_put (cs:=#[.bool (t271 == 0),.bool false,.int .i64 t280,.int .i64 t282,.int .i64 t284,.slice Ao10 t273.length co10]) ?_ 1 _ rfl;(with_reducible repeat (first|refine blk_drewN ?_ _|refine blk_drew ?_|refine blk_alloc ?_ _));exact BK277.out) NB277_0.out (by simp));have n3_:=Aside0.mk (KeepBut.trans (by repeat (first|(with_reducible first|exact HK.out|apply KeepBut.set_|apply keep_drewN|apply keep_drew|apply keep_alloc|refine keep_far ?_ GW270.out _|refine keep_far ?_ GW277.out _)|exact HK.out)) hk (.inl rfl));have n4_:=Aside0.mk (hb);have n5_:=Aside0.mk (hi);clear BK270 HO275 BK277 HK HB HI0;have BK270:=n0_;have HO275:=n1_;have BK277:=n2_;have HK:=n3_;have HB:=n4_;have HI0:=n5_;clear n0_ n1_ n2_ n3_ n4_ n5_;(try clear hb);(try clear hb2);(try clear hk);(try clear hi))|((with_reducible refine gate_dst (N:=32) rfl ?_);refine Kd.R_lit (Kd.int .i64) _ 3 ?hg (N:=32) ?hd (xs:=([]:List Int)) (inner:=[]) (ok:=fun _=>True) (okp:=fun _=>True) ?hr ?hp (fun _ hk=>hk) trivial (Below.refl _ _) (Nat.le_refl _) (by simp) ?_;(case hd=>rfl);(case hg=>rfl);(case hr=>first|(go_simp;done)|(go_simp;rfl));(case hp=>exact (Reps.none _ _));intro v291 w35 ho36 hb hg_ hnew_;clear hg_ hnew_;(first|rw [← Ny290.out] at ho36|(simp only [Int.reduceToNat] at ho36;rw [← Ny290.out] at ho36));have n0_:=Aside0.mk (Kd.N_elder' (by (with_reducible repeat (first|apply Kd.N_alloc|apply Kd.N_drewN|apply Kd.N_drew));exact HO275.out) (Kd.R_base ho36) hb);have n1_:=Aside0.mk (Kd.R_lower (Kd.R_newM (M:=fun k_=>(w.heap.size ≤ k_)) ho36 (keep_size (w:=w) (g:=g) (row:=none) (by repeat (first|(with_reducible first|exact HK.out|apply KeepBut.set_|apply keep_drewN|apply keep_drew|apply keep_alloc|refine keep_far ?_ GW270.out _|refine keep_far ?_ GW277.out _)|exact HK.out))) (fun k_ h_=>h_)) (keep_size (w:=w) (g:=g) (row:=none) (by repeat (first|(with_reducible first|exact HK.out|apply KeepBut.set_|apply keep_drewN|apply keep_drew|apply keep_alloc|refine keep_far ?_ GW270.out _|refine keep_far ?_ GW277.out _)|exact HK.out))));have n2_:=Aside0.mk (IsS92.below (by repeat (first|(with_reducible first|exact HI0.out|apply IsS92.alloc|apply IsS92.drewN|apply IsS92.drew|apply IsS92.set_1|refine IsS92.far ?_ NB0_270.out _|refine IsS92.far ?_ NB0_277.out _)|exact HI0.out)) hb);have n3_:=Aside0.mk (blk_below (g:=gb270) (o:=.cells #[.bool false,.bool false,.int .i64 0,.int .i64 0,.int .i64 0,.slice none 0 0] 34 (0,0)) (by (with_reducible repeat (first|refine blk_drewN ?_ _|refine blk_drew ?_|refine blk_alloc ?_ _));exact BK270.out) hb);have n4_:=Aside0.mk (blk_below (g:=gb277) (o:=.cells #[.bool (t271 == 0),.bool true,.int .i64 t280,.int .i64 t282,.int .i64 t284,.slice Ao10 t273.length co10] 34 (0,0)) (by (with_reducible repeat (first|refine blk_drewN ?_ _|refine blk_drew ?_|refine blk_alloc ?_ _));exact BK277.out) hb);have n5_:=Aside0.mk (KeepBut.trans (by repeat (first|(with_reducible first|exact HK.out|apply KeepBut.set_|apply keep_drewN|apply keep_drew|apply keep_alloc|refine keep_far ?_ GW270.out _|refine keep_far ?_ GW277.out _)|exact HK.out)) (KeepBut.of_below hb g none) (.inl rfl));have n6_:=Aside0.mk (below_step (by repeat (first|(with_reducible first|exact HB.out|apply below_alloc|apply pw_below_drewN|apply below_drew1|refine below_set ?_ (IsS92.ge HI0.out)|refine below_set ?_ GE270.out|refine below_set ?_ GE277.out)|exact HB.out)) hb);clear HO275 HI0 BK270 BK277 HK HB;have HO275:=n0_;have HO292:=n1_;have HI0:=n2_;have BK270:=n3_;have BK277:=n4_;have HK:=n5_;have HB:=n6_;clear n0_ n1_ n2_ n3_ n4_ n5_ n6_;clear hb ho36)|((with_reducible refine gate_callee (f:=67) rfl ?_);refine goesL_ (some 34) rfl rfl Try.func67 (by kernel_rfl) rfl #[.pointer (some ⟨g,0,none⟩),.int .i64 2] rfl (by (try simp only [map_toArray,map_cons,map_nil]);first|done|rfl|(simp only [length_drop,length_take];rfl)) ?_;(with_reducible refine (spec_l6Rd_pick.calls k g s0_0 t289 2 t293 t294 w0 _ ?side1 ?side2 A23.out).mono ?_);(case side1=>repeat (first|(with_reducible first|exact HI0.out|apply IsS92.alloc|apply IsS92.drewN|apply IsS92.drew|apply IsS92.set_1|refine IsS92.far ?_ NB0_270.out _|refine IsS92.far ?_ NB0_277.out _)|exact HI0.out));(case side2=>repeat (first|(with_reducible first|exact HB.out|apply below_alloc|apply pw_below_drewN|apply below_drew1|refine below_set ?_ (IsS92.ge HI0.out)|refine below_set ?_ GE270.out|refine below_set ?_ GE277.out)|exact HB.out));rintro e w37 ⟨rfl,hi,hb,hk⟩;refine ⟨_,rfl,?_⟩;have n0_:=Aside0.mk (KeepBut.blk hk (g':=gb270) (o:=.cells #[.bool false,.bool false,.int .i64 0,.int .i64 0,.int .i64 0,.slice none 0 0] 34 (0,0)) (by (with_reducible repeat (first|refine blk_drewN ?_ _|refine blk_drew ?_|refine blk_alloc ?_ _));exact BK270.out) NB270_0.out (by simp));have n1_:=Aside0.mk (Kd.N_mono (Kd.N_keep (Kd.N_mono (ok:=fun k_=>(((((w.heap.size ≤ k_))∧(k_ ≠ gb270∧k_ ≠ g))∧k_ ≠ gb277)∧some k_ ≠ (v291:Value).ownBlock)) (by (with_reducible repeat (first|apply Kd.N_alloc|apply Kd.N_drewN|apply Kd.N_drew));exact HO275.out) (fun k_ hk_=>(⟨hk_,hk_.1.1.2.2⟩:_∧k_ ≠ g))) hk (fun _ h=>h.2)) (fun _ h=>h.1));have n2_:=Aside0.mk (KeepBut.blk hk (g':=gb277) (o:=.cells #[.bool (t271 == 0),.bool true,.int .i64 t280,.int .i64 t282,.int .i64 t284,.slice Ao10 t273.length co10] 34 (0,0)) (by (with_reducible repeat (first|refine blk_drewN ?_ _|refine blk_drew ?_|refine blk_alloc ?_ _));exact BK277.out) NB277_0.out (by simp));have n3_:=Aside0.mk (Kd.R_mono (Kd.R_keep (IsS92.apart (show IsS92 w0 _ g s0_0 t289 from by repeat (first|(with_reducible first|exact HI0.out|apply IsS92.alloc|apply IsS92.drewN|apply IsS92.drew|apply IsS92.set_1|refine IsS92.far ?_ NB0_270.out _|refine IsS92.far ?_ NB0_277.out _)|exact HI0.out)) (by (with_reducible repeat (first|apply Kd.R_alloc|apply Kd.R_drewN|apply Kd.R_drew));exact HO292.out) (by decide)) hk (fun _ h=>h.2)) (fun _ h=>h.1));have n4_:=Aside0.mk (KeepBut.trans (by repeat (first|(with_reducible first|exact HK.out|apply KeepBut.set_|apply keep_drewN|apply keep_drew|apply keep_alloc|refine keep_far ?_ GW270.out _|refine keep_far ?_ GW277.out _)|exact HK.out)) hk (.inl rfl));have n5_:=Aside0.mk (hb);have n6_:=Aside0.mk (hi);clear BK270 HO275 BK277 HO292 HK HB HI0;have BK270:=n0_;have HO275:=n1_;have BK277:=n2_;have HO292:=n3_;have HK:=n4_;have HB:=n5_;have HI0:=n6_;clear n0_ n1_ n2_ n3_ n4_ n5_ n6_;(try clear hb);(try clear hb2);(try clear hk);(try clear hi))|((with_reducible refine gate_dst (N:=35) rfl ?_);refine Kd.R_lit (Kd.int .i64) _ 3 ?hg (N:=35) ?hd (xs:=([t293]:List Int)) (inner:=[.int .i64 t293]) (ok:=fun _=>True) (okp:=fun _=>True) ?hr ?hp (fun _ hk=>hk) trivial (Below.refl _ _) (Nat.le_refl _) (by simp) ?_;(case hd=>rfl);(case hg=>rfl);(case hr=>first|(go_simp;done)|(go_simp;rfl));(case hp=>exact (Reps.one (show Kd.M (Kd.int .i64) _ _ _ t293 [.int .i64 t293] from rfl) (Reps.none _ _)));intro v296 w38 ho39 hb hg_ hnew_;clear hg_ hnew_;(first|rw [← Ny295.out] at ho39|(simp only [Int.reduceToNat] at ho39;rw [← Ny295.out] at ho39));have n0_:=Aside0.mk (Kd.N_elder' (by (with_reducible repeat (first|apply Kd.N_alloc|apply Kd.N_drewN|apply Kd.N_drew));exact HO275.out) (Kd.R_base ho39) hb);have n1_:=Aside0.mk (Kd.R_elder' (by (with_reducible repeat (first|apply Kd.R_alloc|apply Kd.R_drewN|apply Kd.R_drew));exact HO292.out) (Kd.R_base ho39) hb);have n2_:=Aside0.mk (Kd.R_lower (Kd.R_new' (Kd.R_newM (M:=fun k_=>(w.heap.size ≤ k_)) ho39 (keep_size (w:=w) (g:=g) (row:=none) (by repeat (first|(with_reducible first|exact HK.out|apply KeepBut.set_|apply keep_drewN|apply keep_drew|apply keep_alloc|refine keep_far ?_ GW270.out _|refine keep_far ?_ GW277.out _)|exact HK.out))) (fun k_ h_=>h_)) (Kd.R_lt (by (with_reducible repeat (first|apply Kd.R_alloc|apply Kd.R_drewN|apply Kd.R_drew));exact HO292.out))) (keep_size (w:=w) (g:=g) (row:=none) (by repeat (first|(with_reducible first|exact HK.out|apply KeepBut.set_|apply keep_drewN|apply keep_drew|apply keep_alloc|refine keep_far ?_ GW270.out _|refine keep_far ?_ GW277.out _)|exact HK.out))));have n3_:=Aside0.mk (IsS92.below (by repeat (first|(with_reducible first|exact HI0.out|apply IsS92.alloc|apply IsS92.drewN|apply IsS92.drew|apply IsS92.set_1|refine IsS92.far ?_ NB0_270.out _|refine IsS92.far ?_ NB0_277.out _)|exact HI0.out)) hb);have n4_:=Aside0.mk (blk_below (g:=gb270) (o:=.cells #[.bool false,.bool false,.int .i64 0,.int .i64 0,.int .i64 0,.slice none 0 0] 34 (0,0)) (by (with_reducible repeat (first|refine blk_drewN ?_ _|refine blk_drew ?_|refine blk_alloc ?_ _));exact BK270.out) hb);have n5_:=Aside0.mk (blk_below (g:=gb277) (o:=.cells #[.bool (t271 == 0),.bool true,.int .i64 t280,.int .i64 t282,.int .i64 t284,.slice Ao10 t273.length co10] 34 (0,0)) (by (with_reducible repeat (first|refine blk_drewN ?_ _|refine blk_drew ?_|refine blk_alloc ?_ _));exact BK277.out) hb);have n6_:=Aside0.mk (KeepBut.trans (by repeat (first|(with_reducible first|exact HK.out|apply KeepBut.set_|apply keep_drewN|apply keep_drew|apply keep_alloc|refine keep_far ?_ GW270.out _|refine keep_far ?_ GW277.out _)|exact HK.out)) (KeepBut.of_below hb g none) (.inl rfl));have n7_:=Aside0.mk (below_step (by repeat (first|(with_reducible first|exact HB.out|apply below_alloc|apply pw_below_drewN|apply below_drew1|refine below_set ?_ (IsS92.ge HI0.out)|refine below_set ?_ GE270.out|refine below_set ?_ GE277.out)|exact HB.out)) hb);clear HO275 HO292 HI0 BK270 BK277 HK HB;have HO275:=n0_;have HO292:=n1_;have HO297:=n2_;have HI0:=n3_;have BK270:=n4_;have BK277:=n5_;have HK:=n6_;have HB:=n7_;clear n0_ n1_ n2_ n3_ n4_ n5_ n6_ n7_;clear hb ho39;obtain ⟨Ao40,co40,eo40⟩:=Kd.R_slice HO297.out;subst eo40;obtain ⟨Ao41,co41,eo41⟩:=Kd.R_slice HO292.out;subst eo41)|((with_reducible refine gate_dst (N:=37) rfl ?_);refine Kd.N_lit k79 _ 79 ?hg (N':=37) ?hd (xs:=([(⟨a1,t288,false,y290,true,y295⟩:S79)]:List (S79))) (inner:=[.int .i64 a1,.int .i64 t288,.bool false,.slice Ao41 y290.length co41,.bool true,.slice Ao40 y295.length co40]) (ok:=(fun k_=>(w.heap.size ≤ k_)∧some k_ ≠ (.slice Ao10 t273.length co10:Value).ownBlock∧k_ ≠ gb270∧k_ ≠ gb277∧k_ ≠ g)) (okp:=(fun k_=>(w.heap.size ≤ k_)∧some k_ ≠ (.slice Ao10 t273.length co10:Value).ownBlock∧k_ ≠ gb270∧k_ ≠ gb277∧k_ ≠ g)) ?hr ?hp (fun _ hk=>hk) ((show ∀ k_,w38.heap.size ≤ k_→(fun k_=>(w.heap.size ≤ k_)∧some k_ ≠ (.slice Ao10 t273.length co10:Value).ownBlock∧k_ ≠ gb270∧k_ ≠ gb277∧k_ ≠ g) k_ from fun k_ hk=>⟨(Nat.le_trans (keep_size (w:=w) (g:=g) (row:=none) (by repeat (first|(with_reducible first|exact HK.out|apply KeepBut.set_|apply keep_drewN|apply keep_drew|apply keep_alloc|refine keep_far ?_ GW270.out _|refine keep_far ?_ GW277.out _)|exact HK.out))) hk),Kd.fresh' (Kd.N_lt (by (with_reducible repeat (first|apply Kd.N_alloc|apply Kd.N_drewN|apply Kd.N_drew));exact HO275.out)) k_ hk,Kd.freshB (g:=gb270) (o:=.cells #[.bool false,.bool false,.int .i64 0,.int .i64 0,.int .i64 0,.slice none 0 0] 34 (0,0)) (by (with_reducible repeat (first|refine blk_drewN ?_ _|refine blk_drew ?_|refine blk_alloc ?_ _));exact BK270.out) k_ hk,Kd.freshB (g:=gb277) (o:=.cells #[.bool (t271 == 0),.bool true,.int .i64 t280,.int .i64 t282,.int .i64 t284,.slice Ao10 t273.length co10] 34 (0,0)) (by (with_reducible repeat (first|refine blk_drewN ?_ _|refine blk_drew ?_|refine blk_alloc ?_ _));exact BK277.out) k_ hk,IsS92.fresh (by repeat (first|(with_reducible first|exact HI0.out|apply IsS92.alloc|apply IsS92.drewN|apply IsS92.drew|apply IsS92.set_1|refine IsS92.far ?_ NB0_270.out _|refine IsS92.far ?_ NB0_277.out _)|exact HI0.out)) k_ hk⟩) _ (Nat.le_refl _)) (Below.refl _ _) (Nat.le_refl _) (by simp) ?_;(case hd=>rfl);(case hg=>rfl);(case hr=>first|(go_simp;done)|(go_simp;rfl));(case hp=>exact (Reps.c6 (show Kd.FK k79 _ _ (⟨a1,t288,false,y290,true,y295⟩:S79) [.int .i64 a1,.int .i64 t288,.bool false,.slice Ao41 y290.length co41,.bool true,.slice Ao40 y295.length co40] from (k79_mkF _ _ (⟨a1,t288,false,y290,true,y295⟩:S79) (Kd.R_reads' (Kd.R_mono (ok':=(fun k_=>(w.heap.size ≤ k_)∧some k_ ≠ (.slice Ao10 t273.length co10:Value).ownBlock∧k_ ≠ gb270∧k_ ≠ gb277∧k_ ≠ g)) (IsS92.apart HI0.out (Kd.R_types (Kd.R_types (Kd.R_apart' (HO292.out) (Kd.N_typed HO275.out) (by decide)) BK270.out (by decide)) BK277.out (by decide)) (by decide)) (fun k_ hk=>⟨hk.1.1.1.1.1.1,⟨hk.1.1.1.2,⟨hk.1.1.2,⟨hk.1.2,hk.2⟩⟩⟩⟩))).2.1 (Kd.R_F (Kd.R_mono (ok':=(fun k_=>(w.heap.size ≤ k_)∧some k_ ≠ (.slice Ao10 t273.length co10:Value).ownBlock∧k_ ≠ gb270∧k_ ≠ gb277∧k_ ≠ g)) (IsS92.apart HI0.out (Kd.R_types (Kd.R_types (Kd.R_apart' (HO292.out) (Kd.N_typed HO275.out) (by decide)) BK270.out (by decide)) BK277.out (by decide)) (by decide)) (fun k_ hk=>⟨hk.1.1.1.1.1.1,⟨hk.1.1.1.2,⟨hk.1.1.2,⟨hk.1.2,hk.2⟩⟩⟩⟩))) (Kd.R_reads' (Kd.R_mono (ok':=(fun k_=>(w.heap.size ≤ k_)∧some k_ ≠ (.slice Ao10 t273.length co10:Value).ownBlock∧k_ ≠ gb270∧k_ ≠ gb277∧k_ ≠ g)) (IsS92.apart HI0.out (Kd.R_types (Kd.R_types (Kd.R_apart' (HO297.out) (Kd.N_typed HO275.out) (by decide)) BK270.out (by decide)) BK277.out (by decide)) (by decide)) (fun k_ hk=>⟨hk.1.1.1.1.1.1,⟨hk.1.1.1.2,⟨hk.1.1.2,⟨hk.1.2,hk.2⟩⟩⟩⟩))).2.1 (Kd.R_F (Kd.R_mono (ok':=(fun k_=>(w.heap.size ≤ k_)∧some k_ ≠ (.slice Ao10 t273.length co10:Value).ownBlock∧k_ ≠ gb270∧k_ ≠ gb277∧k_ ≠ g)) (IsS92.apart HI0.out (Kd.R_types (Kd.R_types (Kd.R_apart' (HO297.out) (Kd.N_typed HO275.out) (by decide)) BK270.out (by decide)) BK277.out (by decide)) (by decide)) (fun k_ hk=>⟨hk.1.1.1.1.1.1,⟨hk.1.1.1.2,⟨hk.1.1.2,⟨hk.1.2,hk.2⟩⟩⟩⟩))))) (Reps.none _ _)));intro v299 w42 ho43 hb hg_ hnew_;clear hg_ hnew_;(first|rw [← Ny298.out] at ho43|(simp only [Int.reduceToNat] at ho43;rw [← Ny298.out] at ho43));have n0_:=Aside0.mk (Kd.N_elder' (by (with_reducible repeat (first|apply Kd.N_alloc|apply Kd.N_drewN|apply Kd.N_drew));exact HO275.out) (Kd.N_base ho43) hb);have n1_:=Aside0.mk (Kd.N_lower ho43 (keep_size (w:=w) (g:=g) (row:=none) (by repeat (first|(with_reducible first|exact HK.out|apply KeepBut.set_|apply keep_drewN|apply keep_drew|apply keep_alloc|refine keep_far ?_ GW270.out _|refine keep_far ?_ GW277.out _)|exact HK.out))));have n2_:=Aside0.mk (IsS92.below (by repeat (first|(with_reducible first|exact HI0.out|apply IsS92.alloc|apply IsS92.drewN|apply IsS92.drew|apply IsS92.set_1|refine IsS92.far ?_ NB0_270.out _|refine IsS92.far ?_ NB0_277.out _)|exact HI0.out)) hb);have n3_:=Aside0.mk (blk_below (g:=gb270) (o:=.cells #[.bool false,.bool false,.int .i64 0,.int .i64 0,.int .i64 0,.slice none 0 0] 34 (0,0)) (by (with_reducible repeat (first|refine blk_drewN ?_ _|refine blk_drew ?_|refine blk_alloc ?_ _));exact BK270.out) hb);have n4_:=Aside0.mk (blk_below (g:=gb277) (o:=.cells #[.bool (t271 == 0),.bool true,.int .i64 t280,.int .i64 t282,.int .i64 t284,.slice Ao10 t273.length co10] 34 (0,0)) (by (with_reducible repeat (first|refine blk_drewN ?_ _|refine blk_drew ?_|refine blk_alloc ?_ _));exact BK277.out) hb);have n5_:=Aside0.mk (KeepBut.trans (by repeat (first|(with_reducible first|exact HK.out|apply KeepBut.set_|apply keep_drewN|apply keep_drew|apply keep_alloc|refine keep_far ?_ GW270.out _|refine keep_far ?_ GW277.out _)|exact HK.out)) (KeepBut.of_below hb g none) (.inl rfl));have n6_:=Aside0.mk (below_step (by repeat (first|(with_reducible first|exact HB.out|apply below_alloc|apply pw_below_drewN|apply below_drew1|refine below_set ?_ (IsS92.ge HI0.out)|refine below_set ?_ GE270.out|refine below_set ?_ GE277.out)|exact HB.out)) hb);clear HO275 HI0 BK270 BK277 HK HB HO292 HO297;have HO275:=n0_;have HO300:=n1_;have HI0:=n2_;have BK270:=n3_;have BK277:=n4_;have HK:=n5_;have HB:=n6_;clear n0_ n1_ n2_ n3_ n4_ n5_ n6_;clear hb ho43;obtain ⟨Ao44,co44,eo44⟩:=Kd.N_slice HO300.out;subst eo44;have hcz45_0:w42.cell? ⟨gb277,0,none⟩=some (.bool (t271 == 0)):=(blk_cell BK277.out 0).trans rfl;have hcz45_1:w42.cell? ⟨gb277,1,none⟩=some (.bool true):=(blk_cell BK277.out 1).trans rfl;have hcz45_2:w42.cell? ⟨gb277,2,none⟩=some (.int .i64 t280):=(blk_cell BK277.out 2).trans rfl;have hcz45_3:w42.cell? ⟨gb277,3,none⟩=some (.int .i64 t282):=(blk_cell BK277.out 3).trans rfl;have hcz45_4:w42.cell? ⟨gb277,4,none⟩=some (.int .i64 t284):=(blk_cell BK277.out 4).trans rfl;have hcz45_5:w42.cell? ⟨gb277,5,none⟩=some (.slice Ao10 t273.length co10):=(blk_cell BK277.out 5).trans rfl;have hfz45_0:=blk_frozen BK277.out 0;have hfz45_1:=blk_frozen BK277.out 1;have hfz45_2:=blk_frozen BK277.out 2;have hfz45_3:=blk_frozen BK277.out 3;have hfz45_4:=blk_frozen BK277.out 4;have hfz45_5:=blk_frozen BK277.out 5))
    go_meet
    case rel=>exact ⟨_,(t294),(true),(t280),(t282),(t284),(y298),(.slice Ao44 y298.length co44),H',⟨by first|omega|exact Nat.le_refl _⟩,⟨by (with_reducible repeat (first|apply Kd.N_alloc|apply Kd.N_drewN|apply Kd.N_drew));exact Kd.N_mono (Kd.N_far (p:=⟨gb277,5,none⟩) (Kd.N_mono HO300.out (fun k_ hk=>(⟨hk,hk.2.2.2.1⟩:_∧k_ ≠ gb277))) (fun _ hk=>hk.2) (.slice Ao44 y298.length co44)) (fun _ hk=>⟨hk.1.1,⟨hk.1.2.2.1,⟨hk.1.2.2.2.1,hk.1.2.2.2.2⟩⟩⟩)⟩,⟨by (with_reducible repeat (first|refine blk_drewN ?_ _|refine blk_drew ?_|refine blk_alloc ?_ _));refine blk_far ?_ NB270_277.out _;(with_reducible repeat (first|refine blk_drewN ?_ _|refine blk_drew ?_|refine blk_alloc ?_ _));exact BK270.out⟩,⟨by (with_reducible repeat (first|refine blk_drewN ?_ _|refine blk_drew ?_|refine blk_alloc ?_ _));refine blk_put (cs:=#[.bool (t271 == 0),.bool true,.int .i64 t280,.int .i64 t282,.int .i64 t284,.slice Ao10 t273.length co10]) ?_ 5 _ rfl;(with_reducible repeat (first|refine blk_drewN ?_ _|refine blk_drew ?_|refine blk_alloc ?_ _));exact BK277.out⟩,⟨by repeat (first|(with_reducible first|exact HI0.out|apply IsS92.alloc|apply IsS92.drewN|apply IsS92.drew|apply IsS92.set_1|refine IsS92.far ?_ NB0_270.out _|refine IsS92.far ?_ NB0_277.out _)|exact HI0.out)⟩,⟨by repeat (first|(with_reducible first|exact HK.out|apply KeepBut.set_|apply keep_drewN|apply keep_drew|apply keep_alloc|refine keep_far ?_ GW270.out _|refine keep_far ?_ GW277.out _)|exact HK.out)⟩,⟨by repeat (first|(with_reducible first|exact HB.out|apply below_alloc|apply pw_below_drewN|apply below_drew1|refine below_set ?_ (IsS92.ge HI0.out)|refine below_set ?_ GE270.out|refine below_set ?_ GE277.out)|exact HB.out)⟩⟩
   ·rw [if_neg c21] at H
    have c21b0:(t286 == 0)=false:=beq_eq_false_iff_ne.mpr c21
    have c21b1:(t286 != 0)=true:=bne_iff_ne.mpr c21
    have H':=Aside0.mk H
    clear H
    go_wp2_with (first|((with_reducible refine gate_callee (f:=67) rfl ?_);refine goesL_ (some 17) rfl rfl Try.func67 (by kernel_rfl) rfl #[.pointer (some ⟨g,0,none⟩),.int .i64 3] rfl (by (try simp only [map_toArray,map_cons,map_nil]);first|done|rfl|(simp only [length_drop,length_take];rfl)) ?_;(with_reducible refine (spec_l6Rd_pick.calls k g s0_0 t279 3 t280 t281 w0 _ ?side1 ?side2 A17.out).mono ?_);(case side1=>repeat (first|(with_reducible first|exact HI0.out|apply IsS92.alloc|apply IsS92.drewN|apply IsS92.drew|apply IsS92.set_1|refine IsS92.far ?_ NB0_270.out _|refine IsS92.far ?_ NB0_277.out _)|exact HI0.out));(case side2=>repeat (first|(with_reducible first|exact HB.out|apply below_alloc|apply pw_below_drewN|apply below_drew1|refine below_set ?_ (IsS92.ge HI0.out)|refine below_set ?_ GE270.out|refine below_set ?_ GE277.out)|exact HB.out));rintro e w46 ⟨rfl,hi,hb,hk⟩;refine ⟨_,rfl,?_⟩;have n0_:=Aside0.mk (KeepBut.blk hk (g':=gb270) (o:=.cells #[.bool false,.bool false,.int .i64 0,.int .i64 0,.int .i64 0,.slice none 0 0] 34 (0,0)) (by (with_reducible repeat (first|refine blk_drewN ?_ _|refine blk_drew ?_|refine blk_alloc ?_ _));exact BK270.out) NB270_0.out (by simp));have n1_:=Aside0.mk (Kd.N_mono (Kd.N_keep (Kd.N_mono (ok:=fun k_=>((((w.heap.size ≤ k_))∧(k_ ≠ gb270∧k_ ≠ g))∧k_ ≠ gb277)) (by (with_reducible repeat (first|apply Kd.N_alloc|apply Kd.N_drewN|apply Kd.N_drew));exact HO275.out) (fun k_ hk_=>(⟨hk_,hk_.1.2.2⟩:_∧k_ ≠ g))) hk (fun _ h=>h.2)) (fun _ h=>h.1));have n2_:=Aside0.mk (KeepBut.blk hk (g':=gb277) (o:=.cells #[.bool (t271 == 0),.bool false,.int .i64 255,.int .i64 0,.int .i64 0,.slice Ao10 t273.length co10] 34 (0,0)) (by (with_reducible repeat (first|refine blk_drewN ?_ _|refine blk_drew ?_|refine blk_alloc ?_ _));exact BK277.out) NB277_0.out (by simp));have n3_:=Aside0.mk (KeepBut.trans (by repeat (first|(with_reducible first|exact HK.out|apply KeepBut.set_|apply keep_drewN|apply keep_drew|apply keep_alloc|refine keep_far ?_ GW270.out _|refine keep_far ?_ GW277.out _)|exact HK.out)) hk (.inl rfl));have n4_:=Aside0.mk (hb);have n5_:=Aside0.mk (hi);clear BK270 HO275 BK277 HK HB HI0;have BK270:=n0_;have HO275:=n1_;have BK277:=n2_;have HK:=n3_;have HB:=n4_;have HI0:=n5_;clear n0_ n1_ n2_ n3_ n4_ n5_;(try clear hb);(try clear hb2);(try clear hk);(try clear hi);have hnb47:=NB277_270.out;have hnc47:=NB270_277.out;have hnb48:=NB277_0.out;have hnc48:=NB0_277.out;have hcz49_0:w46.cell? ⟨gb277,0,none⟩=some (.bool (t271 == 0)):=(blk_cell BK277.out 0).trans rfl;have hcz49_1:w46.cell? ⟨gb277,1,none⟩=some (.bool false):=(blk_cell BK277.out 1).trans rfl;have hcz49_2:w46.cell? ⟨gb277,2,none⟩=some (.int .i64 255):=(blk_cell BK277.out 2).trans rfl;have hcz49_3:w46.cell? ⟨gb277,3,none⟩=some (.int .i64 0):=(blk_cell BK277.out 3).trans rfl;have hcz49_4:w46.cell? ⟨gb277,4,none⟩=some (.int .i64 0):=(blk_cell BK277.out 4).trans rfl;have hcz49_5:w46.cell? ⟨gb277,5,none⟩=some (.slice Ao10 t273.length co10):=(blk_cell BK277.out 5).trans rfl;have hfz49_0:=blk_frozen BK277.out 0;have hfz49_1:=blk_frozen BK277.out 1;have hfz49_2:=blk_frozen BK277.out 2;have hfz49_3:=blk_frozen BK277.out 3;have hfz49_4:=blk_frozen BK277.out 4;have hfz49_5:=blk_frozen BK277.out 5)|((with_reducible refine gate_callee (f:=67) rfl ?_);refine goesL_ (some 20) rfl rfl Try.func67 (by kernel_rfl) rfl #[.pointer (some ⟨g,0,none⟩),.int .i64 3] rfl (by (try simp only [map_toArray,map_cons,map_nil]);first|done|rfl|(simp only [length_drop,length_take];rfl)) ?_;(with_reducible refine (spec_l6Rd_pick.calls k g s0_0 t281 3 t282 t283 w0 _ ?side1 ?side2 A18.out).mono ?_);(case side1=>repeat (first|(with_reducible first|exact HI0.out|apply IsS92.alloc|apply IsS92.drewN|apply IsS92.drew|apply IsS92.set_1|refine IsS92.far ?_ NB0_270.out _|refine IsS92.far ?_ NB0_277.out _)|exact HI0.out));(case side2=>repeat (first|(with_reducible first|exact HB.out|apply below_alloc|apply pw_below_drewN|apply below_drew1|refine below_set ?_ (IsS92.ge HI0.out)|refine below_set ?_ GE270.out|refine below_set ?_ GE277.out)|exact HB.out));rintro e w50 ⟨rfl,hi,hb,hk⟩;refine ⟨_,rfl,?_⟩;have n0_:=Aside0.mk (KeepBut.blk hk (g':=gb270) (o:=.cells #[.bool false,.bool false,.int .i64 0,.int .i64 0,.int .i64 0,.slice none 0 0] 34 (0,0)) (by (with_reducible repeat (first|refine blk_drewN ?_ _|refine blk_drew ?_|refine blk_alloc ?_ _));refine blk_far ?_ NB270_277.out _;(with_reducible repeat (first|refine blk_drewN ?_ _|refine blk_drew ?_|refine blk_alloc ?_ _));exact BK270.out) NB270_0.out (by simp));have n1_:=Aside0.mk (Kd.N_mono (Kd.N_keep (Kd.N_mono (ok:=fun k_=>((((w.heap.size ≤ k_))∧(k_ ≠ gb270∧k_ ≠ g))∧k_ ≠ gb277)) (by (with_reducible repeat (first|apply Kd.N_alloc|apply Kd.N_drewN|apply Kd.N_drew));exact (Kd.N_mono (Kd.N_far (p:=⟨gb277,2,none⟩) (Kd.N_mono HO275.out (fun k_ hk=>(⟨hk,hk.2⟩:_∧k_ ≠ gb277))) (fun _ hk=>hk.2) (.int .i64 t280)) (fun _ h_=>h_.1))) (fun k_ hk_=>(⟨hk_,hk_.1.2.2⟩:_∧k_ ≠ g))) hk (fun _ h=>h.2)) (fun _ h=>h.1));have n2_:=Aside0.mk (KeepBut.blk hk (g':=gb277) (o:=.cells #[.bool (t271 == 0),.bool false,.int .i64 t280,.int .i64 0,.int .i64 0,.slice Ao10 t273.length co10] 34 (0,0)) (by (with_reducible repeat (first|refine blk_drewN ?_ _|refine blk_drew ?_|refine blk_alloc ?_ _));refine blk_put (cs:=#[.bool (t271 == 0),.bool false,.int .i64 255,.int .i64 0,.int .i64 0,.slice Ao10 t273.length co10]) ?_ 2 _ rfl;(with_reducible repeat (first|refine blk_drewN ?_ _|refine blk_drew ?_|refine blk_alloc ?_ _));exact BK277.out) NB277_0.out (by simp));have n3_:=Aside0.mk (KeepBut.trans (by repeat (first|(with_reducible first|exact HK.out|apply KeepBut.set_|apply keep_drewN|apply keep_drew|apply keep_alloc|refine keep_far ?_ GW270.out _|refine keep_far ?_ GW277.out _)|exact HK.out)) hk (.inl rfl));have n4_:=Aside0.mk (hb);have n5_:=Aside0.mk (hi);clear BK270 HO275 BK277 HK HB HI0;have BK270:=n0_;have HO275:=n1_;have BK277:=n2_;have HK:=n3_;have HB:=n4_;have HI0:=n5_;clear n0_ n1_ n2_ n3_ n4_ n5_;(try clear hb);(try clear hb2);(try clear hk);(try clear hi);have hcz51_0:w50.cell? ⟨gb277,0,none⟩=some (.bool (t271 == 0)):=(blk_cell BK277.out 0).trans rfl;have hcz51_1:w50.cell? ⟨gb277,1,none⟩=some (.bool false):=(blk_cell BK277.out 1).trans rfl;have hcz51_2:w50.cell? ⟨gb277,2,none⟩=some (.int .i64 t280):=(blk_cell BK277.out 2).trans rfl;have hcz51_3:w50.cell? ⟨gb277,3,none⟩=some (.int .i64 0):=(blk_cell BK277.out 3).trans rfl;have hcz51_4:w50.cell? ⟨gb277,4,none⟩=some (.int .i64 0):=(blk_cell BK277.out 4).trans rfl;have hcz51_5:w50.cell? ⟨gb277,5,none⟩=some (.slice Ao10 t273.length co10):=(blk_cell BK277.out 5).trans rfl;have hfz51_0:=blk_frozen BK277.out 0;have hfz51_1:=blk_frozen BK277.out 1;have hfz51_2:=blk_frozen BK277.out 2;have hfz51_3:=blk_frozen BK277.out 3;have hfz51_4:=blk_frozen BK277.out 4;have hfz51_5:=blk_frozen BK277.out 5)|((with_reducible refine gate_callee (f:=67) rfl ?_);refine goesL_ (some 23) rfl rfl Try.func67 (by kernel_rfl) rfl #[.pointer (some ⟨g,0,none⟩),.int .i64 5] rfl (by (try simp only [map_toArray,map_cons,map_nil]);first|done|rfl|(simp only [length_drop,length_take];rfl)) ?_;(with_reducible refine (spec_l6Rd_pick.calls k g s0_0 t283 5 t284 t285 w0 _ ?side1 ?side2 A19.out).mono ?_);(case side1=>repeat (first|(with_reducible first|exact HI0.out|apply IsS92.alloc|apply IsS92.drewN|apply IsS92.drew|apply IsS92.set_1|refine IsS92.far ?_ NB0_270.out _|refine IsS92.far ?_ NB0_277.out _)|exact HI0.out));(case side2=>repeat (first|(with_reducible first|exact HB.out|apply below_alloc|apply pw_below_drewN|apply below_drew1|refine below_set ?_ (IsS92.ge HI0.out)|refine below_set ?_ GE270.out|refine below_set ?_ GE277.out)|exact HB.out));rintro e w52 ⟨rfl,hi,hb,hk⟩;refine ⟨_,rfl,?_⟩;have n0_:=Aside0.mk (KeepBut.blk hk (g':=gb270) (o:=.cells #[.bool false,.bool false,.int .i64 0,.int .i64 0,.int .i64 0,.slice none 0 0] 34 (0,0)) (by (with_reducible repeat (first|refine blk_drewN ?_ _|refine blk_drew ?_|refine blk_alloc ?_ _));refine blk_far ?_ NB270_277.out _;(with_reducible repeat (first|refine blk_drewN ?_ _|refine blk_drew ?_|refine blk_alloc ?_ _));exact BK270.out) NB270_0.out (by simp));have n1_:=Aside0.mk (Kd.N_mono (Kd.N_keep (Kd.N_mono (ok:=fun k_=>((((w.heap.size ≤ k_))∧(k_ ≠ gb270∧k_ ≠ g))∧k_ ≠ gb277)) (by (with_reducible repeat (first|apply Kd.N_alloc|apply Kd.N_drewN|apply Kd.N_drew));exact (Kd.N_mono (Kd.N_far (p:=⟨gb277,3,none⟩) (Kd.N_mono HO275.out (fun k_ hk=>(⟨hk,hk.2⟩:_∧k_ ≠ gb277))) (fun _ hk=>hk.2) (.int .i64 t282)) (fun _ h_=>h_.1))) (fun k_ hk_=>(⟨hk_,hk_.1.2.2⟩:_∧k_ ≠ g))) hk (fun _ h=>h.2)) (fun _ h=>h.1));have n2_:=Aside0.mk (KeepBut.blk hk (g':=gb277) (o:=.cells #[.bool (t271 == 0),.bool false,.int .i64 t280,.int .i64 t282,.int .i64 0,.slice Ao10 t273.length co10] 34 (0,0)) (by (with_reducible repeat (first|refine blk_drewN ?_ _|refine blk_drew ?_|refine blk_alloc ?_ _));refine blk_put (cs:=#[.bool (t271 == 0),.bool false,.int .i64 t280,.int .i64 0,.int .i64 0,.slice Ao10 t273.length co10]) ?_ 3 _ rfl;(with_reducible repeat (first|refine blk_drewN ?_ _|refine blk_drew ?_|refine blk_alloc ?_ _));exact BK277.out) NB277_0.out (by simp));have n3_:=Aside0.mk (KeepBut.trans (by repeat (first|(with_reducible first|exact HK.out|apply KeepBut.set_|apply keep_drewN|apply keep_drew|apply keep_alloc|refine keep_far ?_ GW270.out _|refine keep_far ?_ GW277.out _)|exact HK.out)) hk (.inl rfl));have n4_:=Aside0.mk (hb);have n5_:=Aside0.mk (hi);clear BK270 HO275 BK277 HK HB HI0;have BK270:=n0_;have HO275:=n1_;have BK277:=n2_;have HK:=n3_;have HB:=n4_;have HI0:=n5_;clear n0_ n1_ n2_ n3_ n4_ n5_;(try clear hb);(try clear hb2);(try clear hk);(try clear hi);have hcz53_0:w52.cell? ⟨gb277,0,none⟩=some (.bool (t271 == 0)):=(blk_cell BK277.out 0).trans rfl;have hcz53_1:w52.cell? ⟨gb277,1,none⟩=some (.bool false):=(blk_cell BK277.out 1).trans rfl;have hcz53_2:w52.cell? ⟨gb277,2,none⟩=some (.int .i64 t280):=(blk_cell BK277.out 2).trans rfl;have hcz53_3:w52.cell? ⟨gb277,3,none⟩=some (.int .i64 t282):=(blk_cell BK277.out 3).trans rfl;have hcz53_4:w52.cell? ⟨gb277,4,none⟩=some (.int .i64 0):=(blk_cell BK277.out 4).trans rfl;have hcz53_5:w52.cell? ⟨gb277,5,none⟩=some (.slice Ao10 t273.length co10):=(blk_cell BK277.out 5).trans rfl;have hfz53_0:=blk_frozen BK277.out 0;have hfz53_1:=blk_frozen BK277.out 1;have hfz53_2:=blk_frozen BK277.out 2;have hfz53_3:=blk_frozen BK277.out 3;have hfz53_4:=blk_frozen BK277.out 4;have hfz53_5:=blk_frozen BK277.out 5)|((with_reducible refine gate_callee (f:=67) rfl ?_);refine goesL_ (some 26) rfl rfl Try.func67 (by kernel_rfl) rfl #[.pointer (some ⟨g,0,none⟩),.int .i64 3] rfl (by (try simp only [map_toArray,map_cons,map_nil]);first|done|rfl|(simp only [length_drop,length_take];rfl)) ?_;(with_reducible refine (spec_l6Rd_pick.calls k g s0_0 t285 3 t286 t287 w0 _ ?side1 ?side2 A20.out).mono ?_);(case side1=>repeat (first|(with_reducible first|exact HI0.out|apply IsS92.alloc|apply IsS92.drewN|apply IsS92.drew|apply IsS92.set_1|refine IsS92.far ?_ NB0_270.out _|refine IsS92.far ?_ NB0_277.out _)|exact HI0.out));(case side2=>repeat (first|(with_reducible first|exact HB.out|apply below_alloc|apply pw_below_drewN|apply below_drew1|refine below_set ?_ (IsS92.ge HI0.out)|refine below_set ?_ GE270.out|refine below_set ?_ GE277.out)|exact HB.out));rintro e w54 ⟨rfl,hi,hb,hk⟩;refine ⟨_,rfl,?_⟩;have n0_:=Aside0.mk (KeepBut.blk hk (g':=gb270) (o:=.cells #[.bool false,.bool false,.int .i64 0,.int .i64 0,.int .i64 0,.slice none 0 0] 34 (0,0)) (by (with_reducible repeat (first|refine blk_drewN ?_ _|refine blk_drew ?_|refine blk_alloc ?_ _));refine blk_far ?_ NB270_277.out _;(with_reducible repeat (first|refine blk_drewN ?_ _|refine blk_drew ?_|refine blk_alloc ?_ _));exact BK270.out) NB270_0.out (by simp));have n1_:=Aside0.mk (Kd.N_mono (Kd.N_keep (Kd.N_mono (ok:=fun k_=>((((w.heap.size ≤ k_))∧(k_ ≠ gb270∧k_ ≠ g))∧k_ ≠ gb277)) (by (with_reducible repeat (first|apply Kd.N_alloc|apply Kd.N_drewN|apply Kd.N_drew));exact (Kd.N_mono (Kd.N_far (p:=⟨gb277,4,none⟩) (Kd.N_mono HO275.out (fun k_ hk=>(⟨hk,hk.2⟩:_∧k_ ≠ gb277))) (fun _ hk=>hk.2) (.int .i64 t284)) (fun _ h_=>h_.1))) (fun k_ hk_=>(⟨hk_,hk_.1.2.2⟩:_∧k_ ≠ g))) hk (fun _ h=>h.2)) (fun _ h=>h.1));have n2_:=Aside0.mk (KeepBut.blk hk (g':=gb277) (o:=.cells #[.bool (t271 == 0),.bool false,.int .i64 t280,.int .i64 t282,.int .i64 t284,.slice Ao10 t273.length co10] 34 (0,0)) (by (with_reducible repeat (first|refine blk_drewN ?_ _|refine blk_drew ?_|refine blk_alloc ?_ _));refine blk_put (cs:=#[.bool (t271 == 0),.bool false,.int .i64 t280,.int .i64 t282,.int .i64 0,.slice Ao10 t273.length co10]) ?_ 4 _ rfl;(with_reducible repeat (first|refine blk_drewN ?_ _|refine blk_drew ?_|refine blk_alloc ?_ _));exact BK277.out) NB277_0.out (by simp));have n3_:=Aside0.mk (KeepBut.trans (by repeat (first|(with_reducible first|exact HK.out|apply KeepBut.set_|apply keep_drewN|apply keep_drew|apply keep_alloc|refine keep_far ?_ GW270.out _|refine keep_far ?_ GW277.out _)|exact HK.out)) hk (.inl rfl));have n4_:=Aside0.mk (hb);have n5_:=Aside0.mk (hi);clear BK270 HO275 BK277 HK HB HI0;have BK270:=n0_;have HO275:=n1_;have BK277:=n2_;have HK:=n3_;have HB:=n4_;have HI0:=n5_;clear n0_ n1_ n2_ n3_ n4_ n5_;(try clear hb);(try clear hb2);(try clear hk);(try clear hi)))
    go_meet
    case rel=>exact ⟨_,(t287),(false),(t280),(t282),(t284),(t273),(.slice Ao10 t273.length co10),H',⟨by first|omega|exact Nat.le_refl _⟩,⟨by (with_reducible repeat (first|apply Kd.N_alloc|apply Kd.N_drewN|apply Kd.N_drew));exact Kd.N_mono HO275.out (fun _ hk=>⟨hk.1.1,⟨hk.1.2.1,⟨hk.2,hk.1.2.2⟩⟩⟩)⟩,⟨by (with_reducible repeat (first|refine blk_drewN ?_ _|refine blk_drew ?_|refine blk_alloc ?_ _));exact BK270.out⟩,⟨by (with_reducible repeat (first|refine blk_drewN ?_ _|refine blk_drew ?_|refine blk_alloc ?_ _));exact BK277.out⟩,⟨by repeat (first|(with_reducible first|exact HI0.out|apply IsS92.alloc|apply IsS92.drewN|apply IsS92.drew|apply IsS92.set_1|refine IsS92.far ?_ NB0_270.out _|refine IsS92.far ?_ NB0_277.out _)|exact HI0.out)⟩,⟨by repeat (first|(with_reducible first|exact HK.out|apply KeepBut.set_|apply keep_drewN|apply keep_drew|apply keep_alloc|refine keep_far ?_ GW270.out _|refine keep_far ?_ GW277.out _)|exact HK.out)⟩,⟨by repeat (first|(with_reducible first|exact HB.out|apply below_alloc|apply pw_below_drewN|apply below_drew1|refine below_set ?_ (IsS92.ge HI0.out)|refine below_set ?_ GE270.out|refine below_set ?_ GE277.out)|exact HB.out)⟩⟩
  ·rw [if_neg c16] at H
   have c16b0:(t278 == 0)=false:=beq_eq_false_iff_ne.mpr c16
   have c16b1:(t278 != 0)=true:=bne_iff_ne.mpr c16
   (first|rw [c16b0]|(simp only [i64_w,i32_w];rw [c16b0])|skip)
   have H':=Aside0.mk H
   clear H
   go_wp2
   go_meet
   case rel=>exact ⟨_,(t279),(false),(255),(0),(0),(t273),(.slice Ao10 t273.length co10),H',⟨by first|omega|exact Nat.le_refl _⟩,⟨by (with_reducible repeat (first|apply Kd.N_alloc|apply Kd.N_drewN|apply Kd.N_drew));exact Kd.N_mono HO275.out (fun _ hk=>⟨hk.1.1,⟨hk.1.2.1,⟨hk.2,hk.1.2.2⟩⟩⟩)⟩,⟨by (with_reducible repeat (first|refine blk_drewN ?_ _|refine blk_drew ?_|refine blk_alloc ?_ _));exact BK270.out⟩,⟨by (with_reducible repeat (first|refine blk_drewN ?_ _|refine blk_drew ?_|refine blk_alloc ?_ _));exact BK277.out⟩,⟨by repeat (first|(with_reducible first|exact HI0.out|apply IsS92.alloc|apply IsS92.drewN|apply IsS92.drew|apply IsS92.set_1|refine IsS92.far ?_ NB0_270.out _|refine IsS92.far ?_ NB0_277.out _)|exact HI0.out)⟩,⟨by repeat (first|(with_reducible first|exact HK.out|apply KeepBut.set_|apply keep_drewN|apply keep_drew|apply keep_alloc|refine keep_far ?_ GW270.out _|refine keep_far ?_ GW277.out _)|exact HK.out)⟩,⟨by repeat (first|(with_reducible first|exact HB.out|apply below_alloc|apply pw_below_drewN|apply below_drew1|refine below_set ?_ (IsS92.ge HI0.out)|refine below_set ?_ GE270.out|refine below_set ?_ GE277.out)|exact HB.out)⟩⟩
 case rest=>
  clear HC6
  try clear c1
  try clear c2
  try clear p2
  try clear c4
  try clear c6
  try clear c7
  try clear c12
  try clear c13
  try clear c16
  try clear c16b0
  try clear c16b1
  try clear c21
  try clear c21b0
  try clear c21b1
  try clear c25
  try clear c26
  try clear c47
  try clear c48
  try clear hcz14_0
  try clear hcz14_1
  try clear hcz14_2
  try clear hcz14_3
  try clear hcz14_4
  try clear hcz14_5
  try clear hcz27_0
  try clear hcz27_1
  try clear hcz27_2
  try clear hcz27_3
  try clear hcz27_4
  try clear hcz27_5
  try clear hcz29_0
  try clear hcz29_1
  try clear hcz29_2
  try clear hcz29_3
  try clear hcz29_4
  try clear hcz29_5
  try clear hcz31_0
  try clear hcz31_1
  try clear hcz31_2
  try clear hcz31_3
  try clear hcz31_4
  try clear hcz31_5
  try clear hcz33_0
  try clear hcz33_1
  try clear hcz33_2
  try clear hcz33_3
  try clear hcz33_4
  try clear hcz33_5
  try clear hcz45_0
  try clear hcz45_1
  try clear hcz45_2
  try clear hcz45_3
  try clear hcz45_4
  try clear hcz45_5
  try clear hcz49_0
  try clear hcz49_1
  try clear hcz49_2
  try clear hcz49_3
  try clear hcz49_4
  try clear hcz49_5
  try clear hcz51_0
  try clear hcz51_1
  try clear hcz51_2
  try clear hcz51_3
  try clear hcz51_4
  try clear hcz51_5
  try clear hcz53_0
  try clear hcz53_1
  try clear hcz53_2
  try clear hcz53_3
  try clear hcz53_4
  try clear hcz53_5
  try clear hfz14_0
  try clear hfz14_1
  try clear hfz14_2
  try clear hfz14_3
  try clear hfz14_4
  try clear hfz14_5
  try clear hfz27_0
  try clear hfz27_1
  try clear hfz27_2
  try clear hfz27_3
  try clear hfz27_4
  try clear hfz27_5
  try clear hfz29_0
  try clear hfz29_1
  try clear hfz29_2
  try clear hfz29_3
  try clear hfz29_4
  try clear hfz29_5
  try clear hfz31_0
  try clear hfz31_1
  try clear hfz31_2
  try clear hfz31_3
  try clear hfz31_4
  try clear hfz31_5
  try clear hfz33_0
  try clear hfz33_1
  try clear hfz33_2
  try clear hfz33_3
  try clear hfz33_4
  try clear hfz33_5
  try clear hfz45_0
  try clear hfz45_1
  try clear hfz45_2
  try clear hfz45_3
  try clear hfz45_4
  try clear hfz45_5
  try clear hfz49_0
  try clear hfz49_1
  try clear hfz49_2
  try clear hfz49_3
  try clear hfz49_4
  try clear hfz49_5
  try clear hfz51_0
  try clear hfz51_1
  try clear hfz51_2
  try clear hfz51_3
  try clear hfz51_4
  try clear hfz51_5
  try clear hfz53_0
  try clear hfz53_1
  try clear hfz53_2
  try clear hfz53_3
  try clear hfz53_4
  try clear hfz53_5
  obtain ⟨kq,x1001_5,x278001_5,x278002_5,x278003_5,x278004_5,x278005_5,u278005,HA,HJ5,HO_278005,BK270,BK277,HI0,HK,HB⟩:=hcut
  cases kq with
  | zero=>exact absurd HA.out (by simp [spec_l91Batch.j0])
  | succ kj5=>
   have H:=HA.out
   clear HA
   simp only [spec_l91Batch.j0] at H
   replace H:=Option.bind_eq_some_iff.mp H
   obtain ⟨⟨t301,t302⟩,A550,H⟩:=H
   replace H:(if t301=0 then ((some (([(-1),1,100]:List Int):List Int)).bind fun y303=>((spec_l6Rd_pick.f kj5 s0_0 t302 3).bind fun bt306=>(if 0 ≤ bt306.1 then (if bt306.1 < (y303.length:Int) then (some ((t271 == 0),x278001_5,x278002_5,rd y303 bt306.1,x278004_5,x278005_5,bt306.2)) else (none)) else (none)))) else (if t301=1 then (if 0 < (x278005_5.length:Int) then (if x278005_5.length < 1759218604441 then (some ((t271 == 0),x278001_5,x278002_5,x278003_5,x278004_5,(x278005_5 ++ [(⟨(rd_T79 x278005_5 0).f0,(rd_T79 x278005_5 0).f1,(rd_T79 x278005_5 0).f2,(rd_T79 x278005_5 0).f3,(rd_T79 x278005_5 0).f4,(rd_T79 x278005_5 0).f5⟩:S79)]),t302)) else (none)) else (none)) else (if t301=2 then (some ((t271 == 0),!x278001_5,x278002_5,x278003_5,x278004_5,x278005_5,t302)) else (some ((t271 == 0),x278001_5,x278002_5,x278003_5,x278004_5,x278005_5,t302)))))=some (r1,r2,r3,r4,r5,r6,r7):=H
   have A55:=Aside0.mk A550
   clear A550
   by_cases c56:t301=0
   ·rw [if_pos c56] at H
    have c56b0:(t301 == 0)=true:=beq_iff_eq.mpr c56
    have c56b1:(t301 != 0)=false:=bne_eq_false_iff_eq.mpr c56
    clear c56
    obtain ⟨y303,hy303⟩:∃ y_:List Int,y_=(([(-1),1,100]:List Int)):=⟨_,rfl⟩
    replace H:((spec_l6Rd_pick.f kj5 s0_0 t302 3).bind fun bt306=>(if 0 ≤ bt306.1 then (if bt306.1 < (y303.length:Int) then (some ((t271 == 0),x278001_5,x278002_5,rd y303 bt306.1,x278004_5,x278005_5,bt306.2)) else (none)) else (none)))=some (r1,r2,r3,r4,r5,r6,r7):=by first|(rw [hy303];with_reducible exact H)|(have H2_:=(Option.bind_some _ _).symm.trans H;rw [hy303];with_reducible exact H2_)|(have H2_:=(Option.bind_some _ _).symm.trans H;with_reducible exact H2_)|with_reducible exact H|(rw [hy303];exact H)|exact H
    have Ny303:=Aside0.mk hy303
    clear hy303
    replace H:=Option.bind_eq_some_iff.mp H
    obtain ⟨⟨t306,t307⟩,A570,H⟩:=H
    replace H:(if 0 ≤ t306 then (if t306 < (y303.length:Int) then (some ((t271 == 0),x278001_5,x278002_5,rd y303 t306,x278004_5,x278005_5,t307)) else (none)) else (none))=some (r1,r2,r3,r4,r5,r6,r7):=H
    have A57:=Aside0.mk A570
    clear A570
    by_cases c58 : 0 ≤ t306
    ·rw [if_pos c58] at H
     have c58b0:decide (0 ≤ t306)=true:=decide_eq_true c58
     clear c58
     by_cases c59:t306 < (y303.length:Int)
     ·rw [if_pos c59] at H
      have c59b0:decide (t306 < (y303.length:Int))=true:=decide_eq_true c59
      clear c59
      simp only [Option.some.injEq,Prod.mk.injEq] at H
      obtain ⟨rfl,rfl,rfl,rfl,rfl,rfl,rfl⟩:=H
      go_wp2_with (first|((with_reducible refine gate_callee (f:=67) rfl ?_);refine goesL_ (some 40) rfl rfl Try.func67 (by kernel_rfl) rfl #[.pointer (some ⟨g,0,none⟩),.int .i64 40] rfl (by (try simp only [map_toArray,map_cons,map_nil]);first|done|rfl|(simp only [length_drop,length_take];rfl)) ?_;(with_reducible refine (spec_l6Rd_pick.calls kj5 g s0_0 x1001_5 40 t301 t302 w0 _ ?side1 ?side2 A55.out).mono ?_);(case side1=>repeat (first|(with_reducible first|exact HI0.out|apply IsS92.alloc|apply IsS92.drewN|apply IsS92.drew|apply IsS92.set_1|refine IsS92.far ?_ NB0_270.out _|refine IsS92.far ?_ NB0_277.out _)|exact HI0.out));(case side2=>repeat (first|(with_reducible first|exact HB.out|apply below_alloc|apply pw_below_drewN|apply below_drew1|refine below_set ?_ (IsS92.ge HI0.out)|refine below_set ?_ GE270.out|refine below_set ?_ GE277.out)|exact HB.out));rintro e w60 ⟨rfl,hi,hb,hk⟩;refine ⟨_,rfl,?_⟩;have n0_:=Aside0.mk (Kd.N_mono (Kd.N_keep (Kd.N_mono (ok:=fun k_=>(((w.heap.size ≤ k_))∧(k_ ≠ gb270∧(k_ ≠ gb277∧k_ ≠ g)))) (by (with_reducible repeat (first|apply Kd.N_alloc|apply Kd.N_drewN|apply Kd.N_drew));exact HO_278005.out) (fun k_ hk_=>(⟨hk_,hk_.2.2.2⟩:_∧k_ ≠ g))) hk (fun _ h=>h.2)) (fun _ h=>h.1));have n1_:=Aside0.mk (KeepBut.blk hk (g':=gb270) (o:=.cells #[.bool false,.bool false,.int .i64 0,.int .i64 0,.int .i64 0,.slice none 0 0] 34 (0,0)) (by (with_reducible repeat (first|refine blk_drewN ?_ _|refine blk_drew ?_|refine blk_alloc ?_ _));exact BK270.out) NB270_0.out (by simp));have n2_:=Aside0.mk (KeepBut.blk hk (g':=gb277) (o:=.cells #[.bool (t271 == 0),.bool x278001_5,.int .i64 x278002_5,.int .i64 x278003_5,.int .i64 x278004_5,u278005] 34 (0,0)) (by (with_reducible repeat (first|refine blk_drewN ?_ _|refine blk_drew ?_|refine blk_alloc ?_ _));exact BK277.out) NB277_0.out (by simp));have n3_:=Aside0.mk (KeepBut.trans (by repeat (first|(with_reducible first|exact HK.out|apply KeepBut.set_|apply keep_drewN|apply keep_drew|apply keep_alloc|refine keep_far ?_ GW270.out _|refine keep_far ?_ GW277.out _)|exact HK.out)) hk (.inl rfl));have n4_:=Aside0.mk (hb);have n5_:=Aside0.mk (hi);clear HO_278005 BK270 BK277 HK HB HI0;have HO_278005:=n0_;have BK270:=n1_;have BK277:=n2_;have HK:=n3_;have HB:=n4_;have HI0:=n5_;clear n0_ n1_ n2_ n3_ n4_ n5_;(try clear hb);(try clear hb2);(try clear hk);(try clear hi))|((with_reducible refine gate_dst (N:=43) rfl ?_);refine Kd.R_lit (Kd.int .i64) _ 3 ?hg (N:=43) ?hd (xs:=([(-1),1,100]:List Int)) (inner:=[.int .i64 (-1),.int .i64 1,.int .i64 100]) (ok:=fun _=>True) (okp:=fun _=>True) ?hr ?hp (fun _ hk=>hk) trivial (Below.refl _ _) (Nat.le_refl _) (by simp) ?_;(case hd=>rfl);(case hg=>rfl);(case hr=>first|(go_simp;done)|(go_simp;rfl));(case hp=>exact (Reps.one (show Kd.M (Kd.int .i64) _ _ _ (-1) [.int .i64 (-1)] from rfl) (Reps.one (show Kd.M (Kd.int .i64) _ _ _ 1 [.int .i64 1] from rfl) (Reps.one (show Kd.M (Kd.int .i64) _ _ _ 100 [.int .i64 100] from rfl) (Reps.none _ _)))));intro v304 w61 ho62 hb hg_ hnew_;clear hg_ hnew_;(first|rw [← Ny303.out] at ho62|(simp only [Int.reduceToNat] at ho62;rw [← Ny303.out] at ho62));have n0_:=Aside0.mk (Kd.N_elder' (by (with_reducible repeat (first|apply Kd.N_alloc|apply Kd.N_drewN|apply Kd.N_drew));exact HO_278005.out) (Kd.R_base ho62) hb);have n1_:=Aside0.mk (Kd.R_lower (Kd.R_newM (M:=fun k_=>(w.heap.size ≤ k_)) ho62 (keep_size (w:=w) (g:=g) (row:=none) (by repeat (first|(with_reducible first|exact HK.out|apply KeepBut.set_|apply keep_drewN|apply keep_drew|apply keep_alloc|refine keep_far ?_ GW270.out _|refine keep_far ?_ GW277.out _)|exact HK.out))) (fun k_ h_=>h_)) (keep_size (w:=w) (g:=g) (row:=none) (by repeat (first|(with_reducible first|exact HK.out|apply KeepBut.set_|apply keep_drewN|apply keep_drew|apply keep_alloc|refine keep_far ?_ GW270.out _|refine keep_far ?_ GW277.out _)|exact HK.out))));have n2_:=Aside0.mk (blk_below (g:=gb270) (o:=.cells #[.bool false,.bool false,.int .i64 0,.int .i64 0,.int .i64 0,.slice none 0 0] 34 (0,0)) (by (with_reducible repeat (first|refine blk_drewN ?_ _|refine blk_drew ?_|refine blk_alloc ?_ _));exact BK270.out) hb);have n3_:=Aside0.mk (blk_below (g:=gb277) (o:=.cells #[.bool (t271 == 0),.bool x278001_5,.int .i64 x278002_5,.int .i64 x278003_5,.int .i64 x278004_5,u278005] 34 (0,0)) (by (with_reducible repeat (first|refine blk_drewN ?_ _|refine blk_drew ?_|refine blk_alloc ?_ _));exact BK277.out) hb);have n4_:=Aside0.mk (IsS92.below (by repeat (first|(with_reducible first|exact HI0.out|apply IsS92.alloc|apply IsS92.drewN|apply IsS92.drew|apply IsS92.set_1|refine IsS92.far ?_ NB0_270.out _|refine IsS92.far ?_ NB0_277.out _)|exact HI0.out)) hb);have n5_:=Aside0.mk (KeepBut.trans (by repeat (first|(with_reducible first|exact HK.out|apply KeepBut.set_|apply keep_drewN|apply keep_drew|apply keep_alloc|refine keep_far ?_ GW270.out _|refine keep_far ?_ GW277.out _)|exact HK.out)) (KeepBut.of_below hb g none) (.inl rfl));have n6_:=Aside0.mk (below_step (by repeat (first|(with_reducible first|exact HB.out|apply below_alloc|apply pw_below_drewN|apply below_drew1|refine below_set ?_ (IsS92.ge HI0.out)|refine below_set ?_ GE270.out|refine below_set ?_ GE277.out)|exact HB.out)) hb);clear HO_278005 BK270 BK277 HI0 HK HB;have HO_278005:=n0_;have HO305:=n1_;have BK270:=n2_;have BK277:=n3_;have HI0:=n4_;have HK:=n5_;have HB:=n6_;clear n0_ n1_ n2_ n3_ n4_ n5_ n6_;clear hb ho62)|((with_reducible refine gate_callee (f:=67) rfl ?_);refine goesL_ (some 45) rfl rfl Try.func67 (by kernel_rfl) rfl #[.pointer (some ⟨g,0,none⟩),.int .i64 3] rfl (by (try simp only [map_toArray,map_cons,map_nil]);first|done|rfl|(simp only [length_drop,length_take];rfl)) ?_;(with_reducible refine (spec_l6Rd_pick.calls kj5 g s0_0 t302 3 t306 t307 w0 _ ?side1 ?side2 A57.out).mono ?_);(case side1=>repeat (first|(with_reducible first|exact HI0.out|apply IsS92.alloc|apply IsS92.drewN|apply IsS92.drew|apply IsS92.set_1|refine IsS92.far ?_ NB0_270.out _|refine IsS92.far ?_ NB0_277.out _)|exact HI0.out));(case side2=>repeat (first|(with_reducible first|exact HB.out|apply below_alloc|apply pw_below_drewN|apply below_drew1|refine below_set ?_ (IsS92.ge HI0.out)|refine below_set ?_ GE270.out|refine below_set ?_ GE277.out)|exact HB.out));rintro e w63 ⟨rfl,hi,hb,hk⟩;refine ⟨_,rfl,?_⟩;have n0_:=Aside0.mk (Kd.N_mono (Kd.N_keep (Kd.N_mono (ok:=fun k_=>((((w.heap.size ≤ k_))∧(k_ ≠ gb270∧(k_ ≠ gb277∧k_ ≠ g)))∧some k_ ≠ (v304:Value).ownBlock)) (by (with_reducible repeat (first|apply Kd.N_alloc|apply Kd.N_drewN|apply Kd.N_drew));exact HO_278005.out) (fun k_ hk_=>(⟨hk_,hk_.1.2.2.2⟩:_∧k_ ≠ g))) hk (fun _ h=>h.2)) (fun _ h=>h.1));have n1_:=Aside0.mk (KeepBut.blk hk (g':=gb270) (o:=.cells #[.bool false,.bool false,.int .i64 0,.int .i64 0,.int .i64 0,.slice none 0 0] 34 (0,0)) (by (with_reducible repeat (first|refine blk_drewN ?_ _|refine blk_drew ?_|refine blk_alloc ?_ _));exact BK270.out) NB270_0.out (by simp));have n2_:=Aside0.mk (KeepBut.blk hk (g':=gb277) (o:=.cells #[.bool (t271 == 0),.bool x278001_5,.int .i64 x278002_5,.int .i64 x278003_5,.int .i64 x278004_5,u278005] 34 (0,0)) (by (with_reducible repeat (first|refine blk_drewN ?_ _|refine blk_drew ?_|refine blk_alloc ?_ _));exact BK277.out) NB277_0.out (by simp));have n3_:=Aside0.mk (Kd.R_mono (Kd.R_keep (IsS92.apart (show IsS92 w0 _ g s0_0 t302 from by repeat (first|(with_reducible first|exact HI0.out|apply IsS92.alloc|apply IsS92.drewN|apply IsS92.drew|apply IsS92.set_1|refine IsS92.far ?_ NB0_270.out _|refine IsS92.far ?_ NB0_277.out _)|exact HI0.out)) (by (with_reducible repeat (first|apply Kd.R_alloc|apply Kd.R_drewN|apply Kd.R_drew));exact HO305.out) (by decide)) hk (fun _ h=>h.2)) (fun _ h=>h.1));have n4_:=Aside0.mk (KeepBut.trans (by repeat (first|(with_reducible first|exact HK.out|apply KeepBut.set_|apply keep_drewN|apply keep_drew|apply keep_alloc|refine keep_far ?_ GW270.out _|refine keep_far ?_ GW277.out _)|exact HK.out)) hk (.inl rfl));have n5_:=Aside0.mk (hb);have n6_:=Aside0.mk (hi);clear HO_278005 BK270 BK277 HO305 HK HB HI0;have HO_278005:=n0_;have BK270:=n1_;have BK277:=n2_;have HO305:=n3_;have HK:=n4_;have HB:=n5_;have HI0:=n6_;clear n0_ n1_ n2_ n3_ n4_ n5_ n6_;(try clear hb);(try clear hb2);(try clear hk);(try clear hi);obtain ⟨Ao64,co64,eo64⟩:=Kd.R_slice HO305.out;subst eo64;have p308 : 0 ≤ (t306:Int):=of_decide_eq_true (by first|(with_reducible assumption)|assumption);have q308:t306 < (y303.length:Int):=of_decide_eq_true (by first|(with_reducible assumption)|assumption);obtain ⟨ad308,e308,hx308_0⟩:=Kd.at_int (Kd.R_reads' HO305.out).2.2 t306 p308 q308;cases e308;replace p308:=eq_true p308;replace q308:=eq_true q308;have hnb65:=NB277_270.out;have hnc65:=NB270_277.out;have hnb66:=NB277_0.out;have hnc66:=NB0_277.out;have hcz67_0:w63.cell? ⟨gb277,0,none⟩=some (.bool (t271 == 0)):=(blk_cell BK277.out 0).trans rfl;have hcz67_1:w63.cell? ⟨gb277,1,none⟩=some (.bool x278001_5):=(blk_cell BK277.out 1).trans rfl;have hcz67_2:w63.cell? ⟨gb277,2,none⟩=some (.int .i64 x278002_5):=(blk_cell BK277.out 2).trans rfl;have hcz67_3:w63.cell? ⟨gb277,3,none⟩=some (.int .i64 x278003_5):=(blk_cell BK277.out 3).trans rfl;have hcz67_4:w63.cell? ⟨gb277,4,none⟩=some (.int .i64 x278004_5):=(blk_cell BK277.out 4).trans rfl;have hcz67_5:w63.cell? ⟨gb277,5,none⟩=some (u278005):=(blk_cell BK277.out 5).trans rfl;have hfz67_0:=blk_frozen BK277.out 0;have hfz67_1:=blk_frozen BK277.out 1;have hfz67_2:=blk_frozen BK277.out 2;have hfz67_3:=blk_frozen BK277.out 3;have hfz67_4:=blk_frozen BK277.out 4;have hfz67_5:=blk_frozen BK277.out 5;have hnb68:=NB270_0.out;have hnc68:=NB0_270.out;have hcz69_0:w63.cell? ⟨gb270,0,none⟩=some (.bool false):=(blk_cell BK270.out 0).trans rfl;have hcz69_1:w63.cell? ⟨gb270,1,none⟩=some (.bool false):=(blk_cell BK270.out 1).trans rfl;have hcz69_2:w63.cell? ⟨gb270,2,none⟩=some (.int .i64 0):=(blk_cell BK270.out 2).trans rfl;have hcz69_3:w63.cell? ⟨gb270,3,none⟩=some (.int .i64 0):=(blk_cell BK270.out 3).trans rfl;have hcz69_4:w63.cell? ⟨gb270,4,none⟩=some (.int .i64 0):=(blk_cell BK270.out 4).trans rfl;have hcz69_5:w63.cell? ⟨gb270,5,none⟩=some (.slice none 0 0):=(blk_cell BK270.out 5).trans rfl;have hfz69_0:=blk_frozen BK270.out 0;have hfz69_1:=blk_frozen BK270.out 1;have hfz69_2:=blk_frozen BK270.out 2;have hfz69_3:=blk_frozen BK270.out 3;have hfz69_4:=blk_frozen BK270.out 4;have hfz69_5:=blk_frozen BK270.out 5;obtain ⟨Ao70,co70,eo70⟩:=Kd.N_slice HO_278005.out;subst eo70))
      refine bodyPost_ret (results_cell_row rfl _ _ gb270 34 #[.bool (t271 == 0),.bool x278001_5,.int .i64 x278002_5,.int .i64 (rd y303 t306),.int .i64 x278004_5,.slice Ao70 x278005_5.length co70] (0,0) _ rfl (by (with_reducible repeat (first|refine blk_drewN ?_ _|refine blk_drew ?_|refine blk_alloc ?_ _));refine blk_put (cs:=#[.bool (t271 == 0),.bool x278001_5,.int .i64 x278002_5,.int .i64 (rd y303 t306),.int .i64 x278004_5,.slice none 0 0]) ?_ 5 _ rfl;(with_reducible repeat (first|refine blk_drewN ?_ _|refine blk_drew ?_|refine blk_alloc ?_ _));refine blk_put (cs:=#[.bool (t271 == 0),.bool x278001_5,.int .i64 x278002_5,.int .i64 (rd y303 t306),.int .i64 0,.slice none 0 0]) ?_ 4 _ rfl;(with_reducible repeat (first|refine blk_drewN ?_ _|refine blk_drew ?_|refine blk_alloc ?_ _));refine blk_put (cs:=#[.bool (t271 == 0),.bool x278001_5,.int .i64 x278002_5,.int .i64 0,.int .i64 0,.slice none 0 0]) ?_ 3 _ rfl;(with_reducible repeat (first|refine blk_drewN ?_ _|refine blk_drew ?_|refine blk_alloc ?_ _));refine blk_put (cs:=#[.bool (t271 == 0),.bool x278001_5,.int .i64 0,.int .i64 0,.int .i64 0,.slice none 0 0]) ?_ 2 _ rfl;(with_reducible repeat (first|refine blk_drewN ?_ _|refine blk_drew ?_|refine blk_alloc ?_ _));refine blk_put (cs:=#[.bool (t271 == 0),.bool false,.int .i64 0,.int .i64 0,.int .i64 0,.slice none 0 0]) ?_ 1 _ rfl;(with_reducible repeat (first|refine blk_drewN ?_ _|refine blk_drew ?_|refine blk_alloc ?_ _));refine blk_put (cs:=#[.bool false,.bool false,.int .i64 0,.int .i64 0,.int .i64 0,.slice none 0 0]) ?_ 0 _ rfl;(with_reducible repeat (first|refine blk_drewN ?_ _|refine blk_drew ?_|refine blk_alloc ?_ _));refine blk_far ?_ NB270_277.out _;(with_reducible repeat (first|refine blk_drewN ?_ _|refine blk_drew ?_|refine blk_alloc ?_ _));exact BK270.out) Try.underlying34 rfl (by kernel_rfl)) rfl ?_
      exact ⟨_,by first|rfl|(simp [errW_none,errW_some] <;> rfl)|(simp [*,errW_none,errW_some] <;> rfl),by (with_reducible repeat (first|apply Kd.N_alloc|apply Kd.N_drewN|apply Kd.N_drew));exact Kd.N_mono (Kd.N_far (p:=⟨gb270,5,none⟩) (Kd.N_far (p:=⟨gb270,4,none⟩) (Kd.N_far (p:=⟨gb270,3,none⟩) (Kd.N_far (p:=⟨gb270,2,none⟩) (Kd.N_far (p:=⟨gb270,1,none⟩) (Kd.N_far (p:=⟨gb270,0,none⟩) (Kd.N_far (p:=⟨gb277,3,none⟩) (Kd.N_mono (Kd.N_mono HO_278005.out (fun k_ hk=>(⟨hk,hk.1.2.2.1⟩:_∧k_ ≠ gb277))) (fun k_ hk=>(⟨hk,hk.1.1.2.1⟩:_∧k_ ≠ gb270))) (fun _ hk=>hk.1.2) (.int .i64 (rd y303 t306))) (fun _ hk=>hk.2) (.bool (t271 == 0))) (fun _ hk=>hk.2) (.bool x278001_5)) (fun _ hk=>hk.2) (.int .i64 x278002_5)) (fun _ hk=>hk.2) (.int .i64 (rd y303 t306))) (fun _ hk=>hk.2) (.int .i64 x278004_5)) (fun _ hk=>hk.2) (.slice Ao70 x278005_5.length co70)) (fun _ hk=>hk.1.1.1.1),by repeat (first|(with_reducible first|exact HI0.out|apply IsS92.alloc|apply IsS92.drewN|apply IsS92.drew|apply IsS92.set_1|refine IsS92.far ?_ NB0_270.out _|refine IsS92.far ?_ NB0_277.out _)|exact HI0.out),by repeat (first|(with_reducible first|exact HB.out|apply below_alloc|apply pw_below_drewN|apply below_drew1|refine below_set ?_ (IsS92.ge HI0.out)|refine below_set ?_ GE270.out|refine below_set ?_ GE277.out)|exact HB.out),by repeat (first|(with_reducible first|exact HK.out|apply KeepBut.set_|apply keep_drewN|apply keep_drew|apply keep_alloc|refine keep_far ?_ GW270.out _|refine keep_far ?_ GW277.out _)|exact HK.out)⟩
     ·rw [if_neg c59] at H
      exact absurd H (by simp)
    ·rw [if_neg c58] at H
     exact absurd H (by simp)
   ·rw [if_neg c56] at H
    have c56b0:(t301 == 0)=false:=beq_eq_false_iff_ne.mpr c56
    have c56b1:(t301 != 0)=true:=bne_iff_ne.mpr c56
    by_cases c71:t301=1
    ·rw [if_pos c71] at H
     have c71b0:(t301 == 1)=true:=beq_iff_eq.mpr c71
     have c71b1:(t301 != 1)=false:=bne_eq_false_iff_eq.mpr c71
     clear c71
     by_cases c72 : 0 < (x278005_5.length:Int)
     ·rw [if_pos c72] at H
      have c72b0:decide (0 < (x278005_5.length:Int))=true:=decide_eq_true c72
      have c72b1:decide (0 < x278005_5.length)=true:=decide_eq_true (by omega)
      clear c72
      by_cases c73:x278005_5.length < 1759218604441
      ·rw [if_pos c73] at H
       have LMc73:=Aside0.mk c73
       clear c73
       obtain ⟨y310,hy310⟩:∃ y_:List (S79),y_=(x278005_5 ++ [(⟨(rd_T79 x278005_5 0).f0,(rd_T79 x278005_5 0).f1,(rd_T79 x278005_5 0).f2,(rd_T79 x278005_5 0).f3,(rd_T79 x278005_5 0).f4,(rd_T79 x278005_5 0).f5⟩:S79)]):=⟨_,rfl⟩
       replace H:(some ((t271 == 0),x278001_5,x278002_5,x278003_5,x278004_5,y310,t302))=some (r1,r2,r3,r4,r5,r6,r7):=by first|(rw [hy310];with_reducible exact H)|(have H2_:=(Option.bind_some _ _).symm.trans H;rw [hy310];with_reducible exact H2_)|(have H2_:=(Option.bind_some _ _).symm.trans H;with_reducible exact H2_)|with_reducible exact H|(rw [hy310];exact H)|exact H
       have Ny310:=Aside0.mk hy310
       clear hy310
       simp only [Option.some.injEq,Prod.mk.injEq] at H
       obtain ⟨rfl,rfl,rfl,rfl,rfl,rfl,rfl⟩:=H
       try go_wp2_with (first|((with_reducible refine gate_callee (f:=67) rfl ?_);refine goesL_ (some 40) rfl rfl Try.func67 (by kernel_rfl) rfl #[.pointer (some ⟨g,0,none⟩),.int .i64 40] rfl (by (try simp only [map_toArray,map_cons,map_nil]);first|done|rfl|(simp only [length_drop,length_take];rfl)) ?_;(with_reducible refine (spec_l6Rd_pick.calls kj5 g s0_0 x1001_5 40 t301 t302 w0 _ ?side1 ?side2 A55.out).mono ?_);(case side1=>repeat (first|(with_reducible first|exact HI0.out|apply IsS92.alloc|apply IsS92.drewN|apply IsS92.drew|apply IsS92.set_1|refine IsS92.far ?_ NB0_270.out _|refine IsS92.far ?_ NB0_277.out _)|exact HI0.out));(case side2=>repeat (first|(with_reducible first|exact HB.out|apply below_alloc|apply pw_below_drewN|apply below_drew1|refine below_set ?_ (IsS92.ge HI0.out)|refine below_set ?_ GE270.out|refine below_set ?_ GE277.out)|exact HB.out));rintro e w74 ⟨rfl,hi,hb,hk⟩;refine ⟨_,rfl,?_⟩;have n0_:=Aside0.mk (Kd.N_mono (Kd.N_keep (Kd.N_mono (ok:=fun k_=>(((w.heap.size ≤ k_))∧(k_ ≠ gb270∧(k_ ≠ gb277∧k_ ≠ g)))) (by (with_reducible repeat (first|apply Kd.N_alloc|apply Kd.N_drewN|apply Kd.N_drew));exact HO_278005.out) (fun k_ hk_=>(⟨hk_,hk_.2.2.2⟩:_∧k_ ≠ g))) hk (fun _ h=>h.2)) (fun _ h=>h.1));have n1_:=Aside0.mk (KeepBut.blk hk (g':=gb270) (o:=.cells #[.bool false,.bool false,.int .i64 0,.int .i64 0,.int .i64 0,.slice none 0 0] 34 (0,0)) (by (with_reducible repeat (first|refine blk_drewN ?_ _|refine blk_drew ?_|refine blk_alloc ?_ _));exact BK270.out) NB270_0.out (by simp));have n2_:=Aside0.mk (KeepBut.blk hk (g':=gb277) (o:=.cells #[.bool (t271 == 0),.bool x278001_5,.int .i64 x278002_5,.int .i64 x278003_5,.int .i64 x278004_5,u278005] 34 (0,0)) (by (with_reducible repeat (first|refine blk_drewN ?_ _|refine blk_drew ?_|refine blk_alloc ?_ _));exact BK277.out) NB277_0.out (by simp));have n3_:=Aside0.mk (KeepBut.trans (by repeat (first|(with_reducible first|exact HK.out|apply KeepBut.set_|apply keep_drewN|apply keep_drew|apply keep_alloc|refine keep_far ?_ GW270.out _|refine keep_far ?_ GW277.out _)|exact HK.out)) hk (.inl rfl));have n4_:=Aside0.mk (hb);have n5_:=Aside0.mk (hi);clear HO_278005 BK270 BK277 HK HB HI0;have HO_278005:=n0_;have BK270:=n1_;have BK277:=n2_;have HK:=n3_;have HB:=n4_;have HI0:=n5_;clear n0_ n1_ n2_ n3_ n4_ n5_;(try clear hb);(try clear hb2);(try clear hk);(try clear hi)))
       have n0_:=Aside0.mk (Kd.N_drew HO_278005.out)
       have n1_:=Aside0.mk (blk_drew BK270.out)
       have n2_:=Aside0.mk (blk_drew BK277.out)
       have n3_:=Aside0.mk (IsS92.drew HI0.out)
       have n4_:=Aside0.mk (keep_drew HK.out)
       have n5_:=Aside0.mk (below_drew1 HB.out)
       clear HO_278005
       clear BK270
       clear BK277
       clear HI0
       clear HK
       clear HB
       have HO_278005:=n0_
       have BK270:=n1_
       have BK277:=n2_
       have HI0:=n3_
       have HK:=n4_
       have HB:=n5_
       clear n0_ n1_ n2_ n3_ n4_ n5_
       obtain ⟨Ao76,co76,eo76⟩:=Kd.N_slice HO_278005.out
       (first|subst eo76|(injection eo76 with f1_ f2_ f3_;have f4_:=f1_.symm;have f5_:=f3_.symm;clear f1_ f2_ f3_;subst f4_;subst f5_))
       have p309 : 0 ≤ (0:Int):=(by omega)
       have q309 : 0 < (x278005_5.length:Int):=of_decide_eq_true (by first|(with_reducible assumption)|assumption)
       obtain ⟨ad309,A309_3,c309_3,A309_5,c309_5,e309,hx309_0,hx309_1,hx309_2,hx309_3,hx309_4,hx309_5,hl309_3,hi309_3,hl309_5,hi309_5⟩:=at_T79 (Kd.N_reads' HO_278005.out).2.2 0 p309 q309
       cases e309
       obtain ⟨ce309,hce309,hMe309,hcc309⟩:=Kd.N_get HO_278005.out z79 0 p309 (by first|exact q309|exact of_decide_eq_true (by first|(with_reducible assumption)|assumption)|(have e_:=(Kd.N_reads' HO_278005.out).1;omega))
       obtain ⟨ua309_3,uc309_3,ua309_5,uc309_5,rfl,ul309_3,ge309_3,ul309_5,ge309_5⟩:=k79_openF hMe309
       have hv309_3:=hcc309 3 _ rfl
       rw [add_field _ _ 3 (by omega)] at hv309_3
       replace hv309_3:=Option.some.inj (hv309_3.symm.trans hx309_3)
       injection hv309_3 with hva_ hvn_ hvc_
       rw [hva_] at ge309_3
       rw [hvc_] at ul309_3
       have HL309_3:=Aside0.mk (show Kd.V (Kd.int .i64) 3 _ w.heap.size _ _ ((rd_T79 x278005_5 0).f3) from Kd.V_mk ul309_3 ge309_3)
       clear hva_ hvn_ hvc_ ge309_3 ul309_3
       have hv309_5:=hcc309 5 _ rfl
       rw [add_field _ _ 5 (by omega)] at hv309_5
       replace hv309_5:=Option.some.inj (hv309_5.symm.trans hx309_5)
       injection hv309_5 with hva_ hvn_ hvc_
       rw [hva_] at ge309_5
       rw [hvc_] at ul309_5
       have HL309_5:=Aside0.mk (show Kd.V (Kd.int .i64) 3 _ w.heap.size _ _ ((rd_T79 x278005_5 0).f5) from Kd.V_mk ul309_5 ge309_5)
       clear hva_ hvn_ hvc_ ge309_5 ul309_5
       clear hcc309 hce309
       have qi309:(0 < x278005_5.length)=True:=eq_true (by omega)
       (try rw [show ((0:Int)).toNat=0 from rfl] at hx309_0)
       (try rw [show 0 * 6=0 from rfl] at hx309_0)
       (try rw [Addr.add_zero'] at hx309_0)
       (try rw [show ((0:Int)).toNat=0 from rfl] at hx309_1)
       (try rw [show 0 * 6=0 from rfl] at hx309_1)
       (try rw [Addr.add_zero'] at hx309_1)
       (try rw [show ((0:Int)).toNat=0 from rfl] at hx309_2)
       (try rw [show 0 * 6=0 from rfl] at hx309_2)
       (try rw [Addr.add_zero'] at hx309_2)
       (try rw [show ((0:Int)).toNat=0 from rfl] at hx309_3)
       (try rw [show 0 * 6=0 from rfl] at hx309_3)
       (try rw [Addr.add_zero'] at hx309_3)
       (try rw [show ((0:Int)).toNat=0 from rfl] at hx309_4)
       (try rw [show 0 * 6=0 from rfl] at hx309_4)
       (try rw [Addr.add_zero'] at hx309_4)
       (try rw [show ((0:Int)).toNat=0 from rfl] at hx309_5)
       (try rw [show 0 * 6=0 from rfl] at hx309_5)
       (try rw [Addr.add_zero'] at hx309_5)
       have HR309_3:=Aside0.mk hi309_3
       have HC309_3:=Aside0.mk hl309_3
       clear hi309_3 hl309_3
       have HR309_5:=Aside0.mk hi309_5
       have HC309_5:=Aside0.mk hl309_5
       clear hi309_5 hl309_5
       replace p309:=eq_true p309
       replace q309:=eq_true q309
       refine start_ (n:=10) (S:=fun w'=>w'.cell? ⟨gb277,0,none⟩=some (.bool (t271 == 0))∧w'.cell? ⟨gb277,1,none⟩=some (.bool x278001_5)∧w'.cell? ⟨gb277,2,none⟩=some (.int .i64 x278002_5)∧w'.cell? ⟨gb277,3,none⟩=some (.int .i64 x278003_5)∧w'.cell? ⟨gb277,4,none⟩=some (.int .i64 x278004_5)∧w'.cell? ⟨gb277,5,none⟩=some (.slice (some ad309) x278005_5.length co76)∧w'.cell? ad309=some (.int .i64 ((rd_T79 x278005_5 0).f0))∧w'.cell? ⟨ad309.block,ad309.off+1,none⟩=some (.int .i64 ((rd_T79 x278005_5 0).f1))∧w'.cell? ⟨ad309.block,ad309.off+2,none⟩=some (.bool ((rd_T79 x278005_5 0).f2))∧w'.cell? ⟨ad309.block,ad309.off+3,none⟩=some (.slice A309_3 ((rd_T79 x278005_5 0).f3).length c309_3)∧w'.cell? ⟨ad309.block,ad309.off+4,none⟩=some (.bool ((rd_T79 x278005_5 0).f4))∧w'.cell? ⟨ad309.block,ad309.off+5,none⟩=some (.slice A309_5 ((rd_T79 x278005_5 0).f5).length c309_5)) (ds:=[7,9]) #[false,false,false,false,false,false,false,false,false,false] (by kernel_rfl) rfl rfl ⟨(blk_cell BK277.out 0).trans rfl,(blk_cell BK277.out 1).trans rfl,(blk_cell BK277.out 2).trans rfl,(blk_cell BK277.out 3).trans rfl,(blk_cell BK277.out 4).trans rfl,(blk_cell BK277.out 5).trans rfl,hx309_0,hx309_1,hx309_2,hx309_3,hx309_4,hx309_5⟩ (fun hHeld=>?_);refine with_tabW spec_l91Batch.tab13 spec_l91Batch.bits13 (fun HT_ HW_=>?_)
       generalize w74.drew=w75 at HO_278005 BK270 BK277 HI0 HK HB HL309_3 HL309_5 HR309_3 HR309_5 hx309_0 hx309_1 hx309_2 hx309_3 hx309_4 hx309_5 hHeld ⊢
       refine pure_ (i:=0) (N:=some 51) (v:=?_) (a':=?_) #[true,false,false,false,false,false,false,false,false,false] rfl rfl (any_of HT_.out (by kernel_rfl)) (fun _ _ _ h=>h) (Or.inl ⟨by rfl,?_⟩) ?_ ?_
       rotate_left
       ·intro w'
        go_simp
        with_reducible rfl
       rotate_left
       ·simp only [Act.put,setIfInBounds_toArray,set_cons_zero,set_cons_succ,i64_w,i32_w]
        rfl
       refine pure_ (i:=2) (N:=some 53) (v:=?_) (a':=?_) #[true,false,true,false,false,false,false,false,false,false] rfl rfl (any_of HT_.out (by kernel_rfl)) (fun _ _ _ h=>h) (Or.inl ⟨by rfl,?_⟩) ?_ ?_
       rotate_left
       ·intro w'
        go_simp
        with_reducible rfl
       rotate_left
       ·simp only [Act.put,setIfInBounds_toArray,set_cons_zero,set_cons_succ,i64_w,i32_w]
        rfl
       refine take_ (i:=1) (N:=some 52) (v:=?_) (a':=?_) #[true,true,true,false,false,false,false,false,false,false] rfl rfl (take_ofW HT_.out HW_.out (by kernel_rfl)) (fun _ _ _ h=>h) (Or.inl ⟨by rfl,?_⟩) hHeld ?_ ?_
       rotate_left
       ·rintro w' ⟨s0,s1,s2,s3,s4,s5,s6,s7,s8,s9,s10,s11⟩
        go_simp
        with_reducible rfl
       rotate_left
       ·simp only [Act.put,setIfInBounds_toArray,set_cons_zero,set_cons_succ,i64_w,i32_w]
        rfl
       refine take_ (i:=3) (N:=some 54) (v:=?_) (a':=?_) #[true,true,true,true,false,false,false,false,false,false] rfl rfl (take_ofW HT_.out HW_.out (by kernel_rfl)) (fun _ _ _ h=>h) (Or.inl ⟨by rfl,?_⟩) hHeld ?_ ?_
       rotate_left
       ·rintro w' ⟨s0,s1,s2,s3,s4,s5,s6,s7,s8,s9,s10,s11⟩
        go_simp
        with_reducible rfl
       rotate_left
       ·simp only [Act.put,setIfInBounds_toArray,set_cons_zero,set_cons_succ,i64_w,i32_w]
        rfl
       refine pure_ (i:=4) (N:=some 55) (v:=?_) (a':=?_) #[true,true,true,true,true,false,false,false,false,false] rfl rfl (any_of HT_.out (by kernel_rfl)) (fun _ _ _ h=>h) (Or.inl ⟨by rfl,?_⟩) ?_ ?_
       rotate_left
       ·intro w'
        go_simp
        with_reducible rfl
       rotate_left
       ·simp only [Act.put,setIfInBounds_toArray,set_cons_zero,set_cons_succ,i64_w,i32_w]
        rfl
       refine take_ (i:=5) (N:=some 56) (v:=?_) (a':=?_) #[true,true,true,true,true,true,false,false,false,false] rfl rfl (take_ofW HT_.out HW_.out (by kernel_rfl)) (fun _ _ _ h=>h) (Or.inl ⟨by rfl,?_⟩) hHeld ?_ ?_
       rotate_left
       ·rintro w' ⟨s0,s1,s2,s3,s4,s5,s6,s7,s8,s9,s10,s11⟩
        go_simp
        with_reducible rfl
       rotate_left
       ·simp only [Act.put,setIfInBounds_toArray,set_cons_zero,set_cons_succ,i64_w,i32_w]
        rfl
       refine one_ (i:=6) (N:=some 57) #[true,true,true,true,true,true,true,false,false,false] rfl rfl (one_of HT_.out (by kernel_rfl)) (by decide) (fun K hK=>?_)
       refine value_ (w1:=?_) (v:=?_) (by rfl) rfl ?_ ?_
       rotate_left 2
       ·go_simp
        constructor
        ·rfl
        ·rfl
       refine hK.out _ _ ⟨(blk_cell (blk_alloc BK277.out _) 0).trans rfl,(blk_cell (blk_alloc BK277.out _) 1).trans rfl,(blk_cell (blk_alloc BK277.out _) 2).trans rfl,(blk_cell (blk_alloc BK277.out _) 3).trans rfl,(blk_cell (blk_alloc BK277.out _) 4).trans rfl,(blk_cell (blk_alloc BK277.out _) 5).trans rfl,(World.cell?_alloc_lt _ _ _ (World.block_lt_of_cell? _ _ (hHeld.2.2.2.2.2.2.1))).trans (hHeld.2.2.2.2.2.2.1),(World.cell?_alloc_lt _ _ _ (World.block_lt_of_cell? _ _ (hHeld.2.2.2.2.2.2.2.1))).trans (hHeld.2.2.2.2.2.2.2.1),(World.cell?_alloc_lt _ _ _ (World.block_lt_of_cell? _ _ (hHeld.2.2.2.2.2.2.2.2.1))).trans (hHeld.2.2.2.2.2.2.2.2.1),(World.cell?_alloc_lt _ _ _ (World.block_lt_of_cell? _ _ (hHeld.2.2.2.2.2.2.2.2.2.1))).trans (hHeld.2.2.2.2.2.2.2.2.2.1),(World.cell?_alloc_lt _ _ _ (World.block_lt_of_cell? _ _ (hHeld.2.2.2.2.2.2.2.2.2.2.1))).trans (hHeld.2.2.2.2.2.2.2.2.2.2.1),(World.cell?_alloc_lt _ _ _ (World.block_lt_of_cell? _ _ (hHeld.2.2.2.2.2.2.2.2.2.2.2))).trans (hHeld.2.2.2.2.2.2.2.2.2.2.2)⟩ (fun hHeld=>?_)
       clear hK K
       refine norm_ (a':=?_) ?_ ?_
       rotate_left
       ·show Act.put _ (some 57) _ = _
        simp only [Act.put,setIfInBounds_toArray,set_cons_zero,set_cons_succ,i64_w,i32_w]
        rfl
       refine last_ (i:=7) (N:=some 58) #[true,true,true,true,true,true,true,true,false,false] rfl rfl (one_of HT_.out (by kernel_rfl)) (by decide) (fun K hK=>?_)
       refine Kd.N_append_step k79 w.heap.size (by rfl) (.tmp 52) (.tmp 57) 32 79 (.agg #[(.int .i64 0),(.int .i64 0),(.bool false),(.slice none 0 0),(.bool false),(.slice none 0 0)]) 80 rfl Try.underlying32 info79 rfl (by decide) (by omega) (.slice (some ad309) x278005_5.length co76) x278005_5 (⟨(rd_T79 x278005_5 0).f0,(rd_T79 x278005_5 0).f1,(rd_T79 x278005_5 0).f2,(rd_T79 x278005_5 0).f3,(rd_T79 x278005_5 0).f4,(rd_T79 x278005_5 0).f5⟩:S79) [.int .i64 ((rd_T79 x278005_5 0).f0),.int .i64 ((rd_T79 x278005_5 0).f1),.bool ((rd_T79 x278005_5 0).f2),.slice A309_3 ((rd_T79 x278005_5 0).f3).length c309_3,.bool ((rd_T79 x278005_5 0).f4),.slice A309_5 ((rd_T79 x278005_5 0).f5).length c309_5] (fun k_=>(w.heap.size ≤ k_)∧k_ ≠ gb270∧k_ ≠ gb277∧k_ ≠ g) (fun k_=>((fun k_=>(w.heap.size ≤ k_)∧k_ ≠ gb270∧k_ ≠ gb277∧k_ ≠ g)) k_∧some k_ ≠ (.slice (some ad309) x278005_5.length co76:Value).ownBlock) rfl rfl ?aP (fun _ hk=>hk) ?aF ?aO (Below.refl _ _) ?aS ?aL ?_
       (case aP=>exact (k79_mkF _ _ (⟨(rd_T79 x278005_5 0).f0,(rd_T79 x278005_5 0).f1,(rd_T79 x278005_5 0).f2,(rd_T79 x278005_5 0).f3,(rd_T79 x278005_5 0).f4,(rd_T79 x278005_5 0).f5⟩:S79) (Kd.V_reads' (Kd.V_mono (ok':=(fun k_=>((fun k_=>(w.heap.size ≤ k_)∧k_ ≠ gb270∧k_ ≠ gb277∧k_ ≠ g)) k_∧some k_ ≠ (.slice (some ad309) x278005_5.length co76:Value).ownBlock)) (HL309_3.out) (fun k_ hk=>⟨⟨hk.1.1,⟨hk.1.2.1,⟨hk.1.2.2.1,hk.1.2.2.2⟩⟩⟩,hk.2⟩))).2.1 (Kd.V_F (Kd.V_mono (ok':=(fun k_=>((fun k_=>(w.heap.size ≤ k_)∧k_ ≠ gb270∧k_ ≠ gb277∧k_ ≠ g)) k_∧some k_ ≠ (.slice (some ad309) x278005_5.length co76:Value).ownBlock)) (HL309_3.out) (fun k_ hk=>⟨⟨hk.1.1,⟨hk.1.2.1,⟨hk.1.2.2.1,hk.1.2.2.2⟩⟩⟩,hk.2⟩))) (Kd.V_reads' (Kd.V_mono (ok':=(fun k_=>((fun k_=>(w.heap.size ≤ k_)∧k_ ≠ gb270∧k_ ≠ gb277∧k_ ≠ g)) k_∧some k_ ≠ (.slice (some ad309) x278005_5.length co76:Value).ownBlock)) (HL309_5.out) (fun k_ hk=>⟨⟨hk.1.1,⟨hk.1.2.1,⟨hk.1.2.2.1,hk.1.2.2.2⟩⟩⟩,hk.2⟩))).2.1 (Kd.V_F (Kd.V_mono (ok':=(fun k_=>((fun k_=>(w.heap.size ≤ k_)∧k_ ≠ gb270∧k_ ≠ gb277∧k_ ≠ g)) k_∧some k_ ≠ (.slice (some ad309) x278005_5.length co76:Value).ownBlock)) (HL309_5.out) (fun k_ hk=>⟨⟨hk.1.1,⟨hk.1.2.1,⟨hk.1.2.2.1,hk.1.2.2.2⟩⟩⟩,hk.2⟩)))))
       (case aF=>exact (fun k_ hk=>⟨(Nat.le_trans (keep_size (w:=w) (g:=g) (row:=none) (by repeat (first|(with_reducible first|exact HK.out|apply KeepBut.set_|apply keep_drewN|apply keep_drew|apply keep_alloc|refine keep_far ?_ GW270.out _|refine keep_far ?_ GW277.out _)|exact HK.out))) hk),Kd.freshB (g:=gb270) (o:=.cells #[.bool false,.bool false,.int .i64 0,.int .i64 0,.int .i64 0,.slice none 0 0] 34 (0,0)) (by (with_reducible repeat (first|refine blk_drewN ?_ _|refine blk_drew ?_|refine blk_alloc ?_ _));exact BK270.out) k_ hk,Kd.freshB (g:=gb277) (o:=.cells #[.bool (t271 == 0),.bool x278001_5,.int .i64 x278002_5,.int .i64 x278003_5,.int .i64 x278004_5,.slice (some ad309) x278005_5.length co76] 34 (0,0)) (by (with_reducible repeat (first|refine blk_drewN ?_ _|refine blk_drew ?_|refine blk_alloc ?_ _));exact BK277.out) k_ hk,IsS92.fresh (by repeat (first|(with_reducible first|exact HI0.out|apply IsS92.alloc|apply IsS92.drewN|apply IsS92.drew|apply IsS92.set_1|refine IsS92.far ?_ NB0_270.out _|refine IsS92.far ?_ NB0_277.out _)|exact HI0.out)) k_ hk⟩))
       (case aO=>exact (by (with_reducible repeat (first|apply Kd.N_alloc|apply Kd.N_drewN|apply Kd.N_drew));exact HO_278005.out))
       (case aS=>exact (keep_size (w:=w) (g:=g) (row:=none) (by repeat (first|(with_reducible first|exact HK.out|apply KeepBut.set_|apply keep_drewN|apply keep_drew|apply keep_alloc|refine keep_far ?_ GW270.out _|refine keep_far ?_ GW277.out _)|exact HK.out))))
       (case aL=>have:=LMc73.out;omega)
       intro v311 w77 ho hb hg hat
       rw [← Ny310.out] at ho
       have n0_:=Aside0.mk (blk_grown (g:=gb270) (o:=.cells #[.bool false,.bool false,.int .i64 0,.int .i64 0,.int .i64 0,.slice none 0 0] 34 (0,0)) (by (with_reducible repeat (first|refine blk_drewN ?_ _|refine blk_drew ?_|refine blk_alloc ?_ _));exact BK270.out) hg (Kd.N_ne HO_278005.out BK270.out (by decide)))
       have n1_:=Aside0.mk (blk_grown (g:=gb277) (o:=.cells #[.bool (t271 == 0),.bool x278001_5,.int .i64 x278002_5,.int .i64 x278003_5,.int .i64 x278004_5,.slice (some ad309) x278005_5.length co76] 34 (0,0)) (by (with_reducible repeat (first|refine blk_drewN ?_ _|refine blk_drew ?_|refine blk_alloc ?_ _));exact BK277.out) hg (Kd.N_ne HO_278005.out BK277.out (by decide)))
       have n2_:=Aside0.mk (IsS92.grown (by repeat (first|(with_reducible first|exact HI0.out|apply IsS92.alloc|apply IsS92.drewN|apply IsS92.drew|apply IsS92.set_1|refine IsS92.far ?_ NB0_270.out _|refine IsS92.far ?_ NB0_277.out _)|exact HI0.out)) hg (IsS92.own_neN HI0.out HO_278005.out (by decide)))
       have n3_:=Aside0.mk (Kd.V_afterv (ok:=(fun k_=>(w.heap.size ≤ k_)∧k_ ≠ gb270∧k_ ≠ gb277∧k_ ≠ g)) (by (with_reducible repeat (first|apply Kd.V_alloc|apply Kd.V_drewN|apply Kd.V_drew));exact HL309_3.out) hg hat)
       have n4_:=Aside0.mk (Kd.V_afterv (ok:=(fun k_=>(w.heap.size ≤ k_)∧k_ ≠ gb270∧k_ ≠ gb277∧k_ ≠ g)) (by (with_reducible repeat (first|apply Kd.V_alloc|apply Kd.V_drewN|apply Kd.V_drew));exact HL309_5.out) hg hat)
       have n5_:=Aside0.mk (below_weaken (by repeat (first|(with_reducible first|exact HB.out|apply below_alloc|apply pw_below_drewN|apply below_drew1|refine below_set ?_ (IsS92.ge HI0.out)|refine below_set ?_ GE270.out|refine below_set ?_ GE277.out)|exact HB.out)) HL.out hb)
       have n6_:=Aside0.mk (KeepBut.trans (by repeat (first|(with_reducible first|exact HK.out|apply KeepBut.set_|apply keep_drewN|apply keep_drew|apply keep_alloc|refine keep_far ?_ GW270.out _|refine keep_far ?_ GW277.out _)|exact HK.out)) (KeepBut.of_grown hg g) (Kd.N_base2 HO_278005.out))
       have n7_:=Aside0.mk (ho)
       clear BK270
       clear BK277
       clear HI0
       clear HL309_3
       clear HL309_5
       clear HB
       clear HK
       clear HO_278005
       have BK270:=n0_
       have BK277:=n1_
       have HI0:=n2_
       have HL309_3:=n3_
       have HL309_5:=n4_
       have HB:=n5_
       have HK:=n6_
       have HO312:=n7_
       clear n0_ n1_ n2_ n3_ n4_ n5_ n6_ n7_
       clear ho hb hg hat
       obtain ⟨Ao78,co78,eo78⟩:=Kd.N_slice HO312.out
       (first|subst eo78|(injection eo78 with f1_ f2_ f3_;have f4_:=f1_.symm;have f5_:=f3_.symm;clear f1_ f2_ f3_;subst f4_;subst f5_))
       refine hK.out _ _ ?_
       clear hK K
       refine norm_ (a':=?_) ?_ ?_
       rotate_left
       ·show Act.put _ (some 58) _ = _
        simp only [Act.put,setIfInBounds_toArray,set_cons_zero,set_cons_succ,i64_w,i32_w]
        rfl
       refine pure_ (i:=8) (N:=some 59) (v:=?_) (a':=?_) #[true,true,true,true,true,true,true,true,true,false] rfl rfl (any_of HT_.out (by kernel_rfl)) (fun _ _ _ h=>h) (Or.inl ⟨by rfl,?_⟩) ?_ ?_
       rotate_left
       ·intro w'
        go_simp
        with_reducible rfl
       rotate_left
       ·simp only [Act.put,setIfInBounds_toArray,set_cons_zero,set_cons_succ,i64_w,i32_w]
        rfl
       refine last_ (i:=9) (N:=none) #[true,true,true,true,true,true,true,true,true,true] rfl rfl (one_of HT_.out (by kernel_rfl)) (by decide) (fun K hK=>?_)
       have hs79:w77.cell? ⟨gb277,5,none⟩=some (.slice (some ad309) x278005_5.length co76):=(blk_cell BK277.out 5).trans rfl
       have hfs79:=blk_frozen BK277.out 5
       have hns79_0:=NB270_277.out
       have hms79_0:=NB277_270.out
       refine skip_ (w1:=?_) (by rfl) rfl ?_ ?_
       rotate_left
       ·go_simp
        rfl
       refine hK.out _ _ ?_
       clear hK K
       refine done_ (done_of HT_.out (by kernel_rfl)) ?_
       have hnb80:=NB277_270.out
       have hnc80:=NB270_277.out
       have hnb81:=NB277_0.out
       have hnc81:=NB0_277.out
       have hcz82_0:w77.cell? ⟨gb277,0,none⟩=some (.bool (t271 == 0)):=(blk_cell BK277.out 0).trans rfl
       have hcz82_1:w77.cell? ⟨gb277,1,none⟩=some (.bool x278001_5):=(blk_cell BK277.out 1).trans rfl
       have hcz82_2:w77.cell? ⟨gb277,2,none⟩=some (.int .i64 x278002_5):=(blk_cell BK277.out 2).trans rfl
       have hcz82_3:w77.cell? ⟨gb277,3,none⟩=some (.int .i64 x278003_5):=(blk_cell BK277.out 3).trans rfl
       have hcz82_4:w77.cell? ⟨gb277,4,none⟩=some (.int .i64 x278004_5):=(blk_cell BK277.out 4).trans rfl
       have hcz82_5:w77.cell? ⟨gb277,5,none⟩=some (.slice (some ad309) x278005_5.length co76):=(blk_cell BK277.out 5).trans rfl
       have hfz82_0:=blk_frozen BK277.out 0
       have hfz82_1:=blk_frozen BK277.out 1
       have hfz82_2:=blk_frozen BK277.out 2
       have hfz82_3:=blk_frozen BK277.out 3
       have hfz82_4:=blk_frozen BK277.out 4
       have hfz82_5:=blk_frozen BK277.out 5
       have hnb83:=NB270_0.out
       have hnc83:=NB0_270.out
       have hcz84_0:w77.cell? ⟨gb270,0,none⟩=some (.bool false):=(blk_cell BK270.out 0).trans rfl
       have hcz84_1:w77.cell? ⟨gb270,1,none⟩=some (.bool false):=(blk_cell BK270.out 1).trans rfl
       have hcz84_2:w77.cell? ⟨gb270,2,none⟩=some (.int .i64 0):=(blk_cell BK270.out 2).trans rfl
       have hcz84_3:w77.cell? ⟨gb270,3,none⟩=some (.int .i64 0):=(blk_cell BK270.out 3).trans rfl
       have hcz84_4:w77.cell? ⟨gb270,4,none⟩=some (.int .i64 0):=(blk_cell BK270.out 4).trans rfl
       have hcz84_5:w77.cell? ⟨gb270,5,none⟩=some (.slice none 0 0):=(blk_cell BK270.out 5).trans rfl
       have hfz84_0:=blk_frozen BK270.out 0
       have hfz84_1:=blk_frozen BK270.out 1
       have hfz84_2:=blk_frozen BK270.out 2
       have hfz84_3:=blk_frozen BK270.out 3
       have hfz84_4:=blk_frozen BK270.out 4
       have hfz84_5:=blk_frozen BK270.out 5
       try go_wp2
       refine bodyPost_ret (results_cell_row rfl _ _ gb270 34 #[.bool (t271 == 0),.bool x278001_5,.int .i64 x278002_5,.int .i64 x278003_5,.int .i64 x278004_5,.slice Ao78 y310.length co78] (0,0) _ rfl (by (with_reducible repeat (first|refine blk_drewN ?_ _|refine blk_drew ?_|refine blk_alloc ?_ _));refine blk_put (cs:=#[.bool (t271 == 0),.bool x278001_5,.int .i64 x278002_5,.int .i64 x278003_5,.int .i64 x278004_5,.slice none 0 0]) ?_ 5 _ rfl;(with_reducible repeat (first|refine blk_drewN ?_ _|refine blk_drew ?_|refine blk_alloc ?_ _));refine blk_put (cs:=#[.bool (t271 == 0),.bool x278001_5,.int .i64 x278002_5,.int .i64 x278003_5,.int .i64 0,.slice none 0 0]) ?_ 4 _ rfl;(with_reducible repeat (first|refine blk_drewN ?_ _|refine blk_drew ?_|refine blk_alloc ?_ _));refine blk_put (cs:=#[.bool (t271 == 0),.bool x278001_5,.int .i64 x278002_5,.int .i64 0,.int .i64 0,.slice none 0 0]) ?_ 3 _ rfl;(with_reducible repeat (first|refine blk_drewN ?_ _|refine blk_drew ?_|refine blk_alloc ?_ _));refine blk_put (cs:=#[.bool (t271 == 0),.bool x278001_5,.int .i64 0,.int .i64 0,.int .i64 0,.slice none 0 0]) ?_ 2 _ rfl;(with_reducible repeat (first|refine blk_drewN ?_ _|refine blk_drew ?_|refine blk_alloc ?_ _));refine blk_put (cs:=#[.bool (t271 == 0),.bool false,.int .i64 0,.int .i64 0,.int .i64 0,.slice none 0 0]) ?_ 1 _ rfl;(with_reducible repeat (first|refine blk_drewN ?_ _|refine blk_drew ?_|refine blk_alloc ?_ _));refine blk_put (cs:=#[.bool false,.bool false,.int .i64 0,.int .i64 0,.int .i64 0,.slice none 0 0]) ?_ 0 _ rfl;(with_reducible repeat (first|refine blk_drewN ?_ _|refine blk_drew ?_|refine blk_alloc ?_ _));refine blk_far ?_ NB270_277.out _;(with_reducible repeat (first|refine blk_drewN ?_ _|refine blk_drew ?_|refine blk_alloc ?_ _));exact BK270.out) Try.underlying34 rfl (by kernel_rfl)) rfl ?_
       exact ⟨_,by first|rfl|(simp [errW_none,errW_some] <;> rfl)|(simp [*,errW_none,errW_some] <;> rfl),by (with_reducible repeat (first|apply Kd.N_alloc|apply Kd.N_drewN|apply Kd.N_drew));exact Kd.N_mono (Kd.N_far (p:=⟨gb270,5,none⟩) (Kd.N_far (p:=⟨gb270,4,none⟩) (Kd.N_far (p:=⟨gb270,3,none⟩) (Kd.N_far (p:=⟨gb270,2,none⟩) (Kd.N_far (p:=⟨gb270,1,none⟩) (Kd.N_far (p:=⟨gb270,0,none⟩) (Kd.N_far (p:=⟨gb277,5,none⟩) (Kd.N_mono (Kd.N_mono HO312.out (fun k_ hk=>(⟨hk,hk.2.2.1⟩:_∧k_ ≠ gb277))) (fun k_ hk=>(⟨hk,hk.1.2.1⟩:_∧k_ ≠ gb270))) (fun _ hk=>hk.1.2) (.slice Ao78 y310.length co78)) (fun _ hk=>hk.2) (.bool (t271 == 0))) (fun _ hk=>hk.2) (.bool x278001_5)) (fun _ hk=>hk.2) (.int .i64 x278002_5)) (fun _ hk=>hk.2) (.int .i64 x278003_5)) (fun _ hk=>hk.2) (.int .i64 x278004_5)) (fun _ hk=>hk.2) (.slice Ao78 y310.length co78)) (fun _ hk=>hk.1.1.1),by repeat (first|(with_reducible first|exact HI0.out|apply IsS92.alloc|apply IsS92.drewN|apply IsS92.drew|apply IsS92.set_1|refine IsS92.far ?_ NB0_270.out _|refine IsS92.far ?_ NB0_277.out _)|exact HI0.out),by repeat (first|(with_reducible first|exact HB.out|apply below_alloc|apply pw_below_drewN|apply below_drew1|refine below_set ?_ (IsS92.ge HI0.out)|refine below_set ?_ GE270.out|refine below_set ?_ GE277.out)|exact HB.out),by repeat (first|(with_reducible first|exact HK.out|apply KeepBut.set_|apply keep_drewN|apply keep_drew|apply keep_alloc|refine keep_far ?_ GW270.out _|refine keep_far ?_ GW277.out _)|exact HK.out)⟩
      ·rw [if_neg c73] at H
       exact absurd H (by simp)
     ·rw [if_neg c72] at H
      exact absurd H (by simp)
    ·rw [if_neg c71] at H
     have c71b0:(t301 == 1)=false:=beq_eq_false_iff_ne.mpr c71
     have c71b1:(t301 != 1)=true:=bne_iff_ne.mpr c71
     by_cases c85:t301=2
     ·rw [if_pos c85] at H
      have c85b0:(t301 == 2)=true:=beq_iff_eq.mpr c85
      have c85b1:(t301 != 2)=false:=bne_eq_false_iff_eq.mpr c85
      clear c85
      simp only [Option.some.injEq,Prod.mk.injEq] at H
      obtain ⟨rfl,rfl,rfl,rfl,rfl,rfl,rfl⟩:=H
      go_wp2_with (first|((with_reducible refine gate_callee (f:=67) rfl ?_);refine goesL_ (some 40) rfl rfl Try.func67 (by kernel_rfl) rfl #[.pointer (some ⟨g,0,none⟩),.int .i64 40] rfl (by (try simp only [map_toArray,map_cons,map_nil]);first|done|rfl|(simp only [length_drop,length_take];rfl)) ?_;(with_reducible refine (spec_l6Rd_pick.calls kj5 g s0_0 x1001_5 40 t301 t302 w0 _ ?side1 ?side2 A55.out).mono ?_);(case side1=>repeat (first|(with_reducible first|exact HI0.out|apply IsS92.alloc|apply IsS92.drewN|apply IsS92.drew|apply IsS92.set_1|refine IsS92.far ?_ NB0_270.out _|refine IsS92.far ?_ NB0_277.out _)|exact HI0.out));(case side2=>repeat (first|(with_reducible first|exact HB.out|apply below_alloc|apply pw_below_drewN|apply below_drew1|refine below_set ?_ (IsS92.ge HI0.out)|refine below_set ?_ GE270.out|refine below_set ?_ GE277.out)|exact HB.out));rintro e w86 ⟨rfl,hi,hb,hk⟩;refine ⟨_,rfl,?_⟩;have n0_:=Aside0.mk (Kd.N_mono (Kd.N_keep (Kd.N_mono (ok:=fun k_=>(((w.heap.size ≤ k_))∧(k_ ≠ gb270∧(k_ ≠ gb277∧k_ ≠ g)))) (by (with_reducible repeat (first|apply Kd.N_alloc|apply Kd.N_drewN|apply Kd.N_drew));exact HO_278005.out) (fun k_ hk_=>(⟨hk_,hk_.2.2.2⟩:_∧k_ ≠ g))) hk (fun _ h=>h.2)) (fun _ h=>h.1));have n1_:=Aside0.mk (KeepBut.blk hk (g':=gb270) (o:=.cells #[.bool false,.bool false,.int .i64 0,.int .i64 0,.int .i64 0,.slice none 0 0] 34 (0,0)) (by (with_reducible repeat (first|refine blk_drewN ?_ _|refine blk_drew ?_|refine blk_alloc ?_ _));exact BK270.out) NB270_0.out (by simp));have n2_:=Aside0.mk (KeepBut.blk hk (g':=gb277) (o:=.cells #[.bool (t271 == 0),.bool x278001_5,.int .i64 x278002_5,.int .i64 x278003_5,.int .i64 x278004_5,u278005] 34 (0,0)) (by (with_reducible repeat (first|refine blk_drewN ?_ _|refine blk_drew ?_|refine blk_alloc ?_ _));exact BK277.out) NB277_0.out (by simp));have n3_:=Aside0.mk (KeepBut.trans (by repeat (first|(with_reducible first|exact HK.out|apply KeepBut.set_|apply keep_drewN|apply keep_drew|apply keep_alloc|refine keep_far ?_ GW270.out _|refine keep_far ?_ GW277.out _)|exact HK.out)) hk (.inl rfl));have n4_:=Aside0.mk (hb);have n5_:=Aside0.mk (hi);clear HO_278005 BK270 BK277 HK HB HI0;have HO_278005:=n0_;have BK270:=n1_;have BK277:=n2_;have HK:=n3_;have HB:=n4_;have HI0:=n5_;clear n0_ n1_ n2_ n3_ n4_ n5_;(try clear hb);(try clear hb2);(try clear hk);(try clear hi);have hnb87:=NB277_270.out;have hnc87:=NB270_277.out;have hnb88:=NB277_0.out;have hnc88:=NB0_277.out;have hcz89_0:w86.cell? ⟨gb277,0,none⟩=some (.bool (t271 == 0)):=(blk_cell BK277.out 0).trans rfl;have hcz89_1:w86.cell? ⟨gb277,1,none⟩=some (.bool x278001_5):=(blk_cell BK277.out 1).trans rfl;have hcz89_2:w86.cell? ⟨gb277,2,none⟩=some (.int .i64 x278002_5):=(blk_cell BK277.out 2).trans rfl;have hcz89_3:w86.cell? ⟨gb277,3,none⟩=some (.int .i64 x278003_5):=(blk_cell BK277.out 3).trans rfl;have hcz89_4:w86.cell? ⟨gb277,4,none⟩=some (.int .i64 x278004_5):=(blk_cell BK277.out 4).trans rfl;have hcz89_5:w86.cell? ⟨gb277,5,none⟩=some (u278005):=(blk_cell BK277.out 5).trans rfl;have hfz89_0:=blk_frozen BK277.out 0;have hfz89_1:=blk_frozen BK277.out 1;have hfz89_2:=blk_frozen BK277.out 2;have hfz89_3:=blk_frozen BK277.out 3;have hfz89_4:=blk_frozen BK277.out 4;have hfz89_5:=blk_frozen BK277.out 5;have hnb90:=NB270_0.out;have hnc90:=NB0_270.out;have hcz91_0:w86.cell? ⟨gb270,0,none⟩=some (.bool false):=(blk_cell BK270.out 0).trans rfl;have hcz91_1:w86.cell? ⟨gb270,1,none⟩=some (.bool false):=(blk_cell BK270.out 1).trans rfl;have hcz91_2:w86.cell? ⟨gb270,2,none⟩=some (.int .i64 0):=(blk_cell BK270.out 2).trans rfl;have hcz91_3:w86.cell? ⟨gb270,3,none⟩=some (.int .i64 0):=(blk_cell BK270.out 3).trans rfl;have hcz91_4:w86.cell? ⟨gb270,4,none⟩=some (.int .i64 0):=(blk_cell BK270.out 4).trans rfl;have hcz91_5:w86.cell? ⟨gb270,5,none⟩=some (.slice none 0 0):=(blk_cell BK270.out 5).trans rfl;have hfz91_0:=blk_frozen BK270.out 0;have hfz91_1:=blk_frozen BK270.out 1;have hfz91_2:=blk_frozen BK270.out 2;have hfz91_3:=blk_frozen BK270.out 3;have hfz91_4:=blk_frozen BK270.out 4;have hfz91_5:=blk_frozen BK270.out 5;obtain ⟨Ao92,co92,eo92⟩:=Kd.N_slice HO_278005.out;subst eo92))
      refine bodyPost_ret (results_cell_row rfl _ _ gb270 34 #[.bool (t271 == 0),.bool (!x278001_5),.int .i64 x278002_5,.int .i64 x278003_5,.int .i64 x278004_5,.slice Ao92 x278005_5.length co92] (0,0) _ rfl (by (with_reducible repeat (first|refine blk_drewN ?_ _|refine blk_drew ?_|refine blk_alloc ?_ _));refine blk_put (cs:=#[.bool (t271 == 0),.bool (!x278001_5),.int .i64 x278002_5,.int .i64 x278003_5,.int .i64 x278004_5,.slice none 0 0]) ?_ 5 _ rfl;(with_reducible repeat (first|refine blk_drewN ?_ _|refine blk_drew ?_|refine blk_alloc ?_ _));refine blk_put (cs:=#[.bool (t271 == 0),.bool (!x278001_5),.int .i64 x278002_5,.int .i64 x278003_5,.int .i64 0,.slice none 0 0]) ?_ 4 _ rfl;(with_reducible repeat (first|refine blk_drewN ?_ _|refine blk_drew ?_|refine blk_alloc ?_ _));refine blk_put (cs:=#[.bool (t271 == 0),.bool (!x278001_5),.int .i64 x278002_5,.int .i64 0,.int .i64 0,.slice none 0 0]) ?_ 3 _ rfl;(with_reducible repeat (first|refine blk_drewN ?_ _|refine blk_drew ?_|refine blk_alloc ?_ _));refine blk_put (cs:=#[.bool (t271 == 0),.bool (!x278001_5),.int .i64 0,.int .i64 0,.int .i64 0,.slice none 0 0]) ?_ 2 _ rfl;(with_reducible repeat (first|refine blk_drewN ?_ _|refine blk_drew ?_|refine blk_alloc ?_ _));refine blk_put (cs:=#[.bool (t271 == 0),.bool false,.int .i64 0,.int .i64 0,.int .i64 0,.slice none 0 0]) ?_ 1 _ rfl;(with_reducible repeat (first|refine blk_drewN ?_ _|refine blk_drew ?_|refine blk_alloc ?_ _));refine blk_put (cs:=#[.bool false,.bool false,.int .i64 0,.int .i64 0,.int .i64 0,.slice none 0 0]) ?_ 0 _ rfl;(with_reducible repeat (first|refine blk_drewN ?_ _|refine blk_drew ?_|refine blk_alloc ?_ _));refine blk_far ?_ NB270_277.out _;(with_reducible repeat (first|refine blk_drewN ?_ _|refine blk_drew ?_|refine blk_alloc ?_ _));exact BK270.out) Try.underlying34 rfl (by kernel_rfl)) rfl ?_
      exact ⟨_,by first|rfl|(simp [errW_none,errW_some] <;> rfl)|(simp [*,errW_none,errW_some] <;> rfl),by (with_reducible repeat (first|apply Kd.N_alloc|apply Kd.N_drewN|apply Kd.N_drew));exact Kd.N_mono (Kd.N_far (p:=⟨gb270,5,none⟩) (Kd.N_far (p:=⟨gb270,4,none⟩) (Kd.N_far (p:=⟨gb270,3,none⟩) (Kd.N_far (p:=⟨gb270,2,none⟩) (Kd.N_far (p:=⟨gb270,1,none⟩) (Kd.N_far (p:=⟨gb270,0,none⟩) (Kd.N_far (p:=⟨gb277,1,none⟩) (Kd.N_mono (Kd.N_mono HO_278005.out (fun k_ hk=>(⟨hk,hk.2.2.1⟩:_∧k_ ≠ gb277))) (fun k_ hk=>(⟨hk,hk.1.2.1⟩:_∧k_ ≠ gb270))) (fun _ hk=>hk.1.2) (.bool (!x278001_5))) (fun _ hk=>hk.2) (.bool (t271 == 0))) (fun _ hk=>hk.2) (.bool (!x278001_5))) (fun _ hk=>hk.2) (.int .i64 x278002_5)) (fun _ hk=>hk.2) (.int .i64 x278003_5)) (fun _ hk=>hk.2) (.int .i64 x278004_5)) (fun _ hk=>hk.2) (.slice Ao92 x278005_5.length co92)) (fun _ hk=>hk.1.1.1),by repeat (first|(with_reducible first|exact HI0.out|apply IsS92.alloc|apply IsS92.drewN|apply IsS92.drew|apply IsS92.set_1|refine IsS92.far ?_ NB0_270.out _|refine IsS92.far ?_ NB0_277.out _)|exact HI0.out),by repeat (first|(with_reducible first|exact HB.out|apply below_alloc|apply pw_below_drewN|apply below_drew1|refine below_set ?_ (IsS92.ge HI0.out)|refine below_set ?_ GE270.out|refine below_set ?_ GE277.out)|exact HB.out),by repeat (first|(with_reducible first|exact HK.out|apply KeepBut.set_|apply keep_drewN|apply keep_drew|apply keep_alloc|refine keep_far ?_ GW270.out _|refine keep_far ?_ GW277.out _)|exact HK.out)⟩
     ·rw [if_neg c85] at H
      have c85b0:(t301 == 2)=false:=beq_eq_false_iff_ne.mpr c85
      have c85b1:(t301 != 2)=true:=bne_iff_ne.mpr c85
      simp only [Option.some.injEq,Prod.mk.injEq] at H
      obtain ⟨rfl,rfl,rfl,rfl,rfl,rfl,rfl⟩:=H
      go_wp2_with (first|((with_reducible refine gate_callee (f:=67) rfl ?_);refine goesL_ (some 40) rfl rfl Try.func67 (by kernel_rfl) rfl #[.pointer (some ⟨g,0,none⟩),.int .i64 40] rfl (by (try simp only [map_toArray,map_cons,map_nil]);first|done|rfl|(simp only [length_drop,length_take];rfl)) ?_;(with_reducible refine (spec_l6Rd_pick.calls kj5 g s0_0 x1001_5 40 t301 t302 w0 _ ?side1 ?side2 A55.out).mono ?_);(case side1=>repeat (first|(with_reducible first|exact HI0.out|apply IsS92.alloc|apply IsS92.drewN|apply IsS92.drew|apply IsS92.set_1|refine IsS92.far ?_ NB0_270.out _|refine IsS92.far ?_ NB0_277.out _)|exact HI0.out));(case side2=>repeat (first|(with_reducible first|exact HB.out|apply below_alloc|apply pw_below_drewN|apply below_drew1|refine below_set ?_ (IsS92.ge HI0.out)|refine below_set ?_ GE270.out|refine below_set ?_ GE277.out)|exact HB.out));rintro e w93 ⟨rfl,hi,hb,hk⟩;refine ⟨_,rfl,?_⟩;have n0_:=Aside0.mk (Kd.N_mono (Kd.N_keep (Kd.N_mono (ok:=fun k_=>(((w.heap.size ≤ k_))∧(k_ ≠ gb270∧(k_ ≠ gb277∧k_ ≠ g)))) (by (with_reducible repeat (first|apply Kd.N_alloc|apply Kd.N_drewN|apply Kd.N_drew));exact HO_278005.out) (fun k_ hk_=>(⟨hk_,hk_.2.2.2⟩:_∧k_ ≠ g))) hk (fun _ h=>h.2)) (fun _ h=>h.1));have n1_:=Aside0.mk (KeepBut.blk hk (g':=gb270) (o:=.cells #[.bool false,.bool false,.int .i64 0,.int .i64 0,.int .i64 0,.slice none 0 0] 34 (0,0)) (by (with_reducible repeat (first|refine blk_drewN ?_ _|refine blk_drew ?_|refine blk_alloc ?_ _));exact BK270.out) NB270_0.out (by simp));have n2_:=Aside0.mk (KeepBut.blk hk (g':=gb277) (o:=.cells #[.bool (t271 == 0),.bool x278001_5,.int .i64 x278002_5,.int .i64 x278003_5,.int .i64 x278004_5,u278005] 34 (0,0)) (by (with_reducible repeat (first|refine blk_drewN ?_ _|refine blk_drew ?_|refine blk_alloc ?_ _));exact BK277.out) NB277_0.out (by simp));have n3_:=Aside0.mk (KeepBut.trans (by repeat (first|(with_reducible first|exact HK.out|apply KeepBut.set_|apply keep_drewN|apply keep_drew|apply keep_alloc|refine keep_far ?_ GW270.out _|refine keep_far ?_ GW277.out _)|exact HK.out)) hk (.inl rfl));have n4_:=Aside0.mk (hb);have n5_:=Aside0.mk (hi);clear HO_278005 BK270 BK277 HK HB HI0;have HO_278005:=n0_;have BK270:=n1_;have BK277:=n2_;have HK:=n3_;have HB:=n4_;have HI0:=n5_;clear n0_ n1_ n2_ n3_ n4_ n5_;(try clear hb);(try clear hb2);(try clear hk);(try clear hi);have hnb94:=NB277_270.out;have hnc94:=NB270_277.out;have hnb95:=NB277_0.out;have hnc95:=NB0_277.out;have hcz96_0:w93.cell? ⟨gb277,0,none⟩=some (.bool (t271 == 0)):=(blk_cell BK277.out 0).trans rfl;have hcz96_1:w93.cell? ⟨gb277,1,none⟩=some (.bool x278001_5):=(blk_cell BK277.out 1).trans rfl;have hcz96_2:w93.cell? ⟨gb277,2,none⟩=some (.int .i64 x278002_5):=(blk_cell BK277.out 2).trans rfl;have hcz96_3:w93.cell? ⟨gb277,3,none⟩=some (.int .i64 x278003_5):=(blk_cell BK277.out 3).trans rfl;have hcz96_4:w93.cell? ⟨gb277,4,none⟩=some (.int .i64 x278004_5):=(blk_cell BK277.out 4).trans rfl;have hcz96_5:w93.cell? ⟨gb277,5,none⟩=some (u278005):=(blk_cell BK277.out 5).trans rfl;have hfz96_0:=blk_frozen BK277.out 0;have hfz96_1:=blk_frozen BK277.out 1;have hfz96_2:=blk_frozen BK277.out 2;have hfz96_3:=blk_frozen BK277.out 3;have hfz96_4:=blk_frozen BK277.out 4;have hfz96_5:=blk_frozen BK277.out 5;have hnb97:=NB270_0.out;have hnc97:=NB0_270.out;have hcz98_0:w93.cell? ⟨gb270,0,none⟩=some (.bool false):=(blk_cell BK270.out 0).trans rfl;have hcz98_1:w93.cell? ⟨gb270,1,none⟩=some (.bool false):=(blk_cell BK270.out 1).trans rfl;have hcz98_2:w93.cell? ⟨gb270,2,none⟩=some (.int .i64 0):=(blk_cell BK270.out 2).trans rfl;have hcz98_3:w93.cell? ⟨gb270,3,none⟩=some (.int .i64 0):=(blk_cell BK270.out 3).trans rfl;have hcz98_4:w93.cell? ⟨gb270,4,none⟩=some (.int .i64 0):=(blk_cell BK270.out 4).trans rfl;have hcz98_5:w93.cell? ⟨gb270,5,none⟩=some (.slice none 0 0):=(blk_cell BK270.out 5).trans rfl;have hfz98_0:=blk_frozen BK270.out 0;have hfz98_1:=blk_frozen BK270.out 1;have hfz98_2:=blk_frozen BK270.out 2;have hfz98_3:=blk_frozen BK270.out 3;have hfz98_4:=blk_frozen BK270.out 4;have hfz98_5:=blk_frozen BK270.out 5;obtain ⟨Ao99,co99,eo99⟩:=Kd.N_slice HO_278005.out;subst eo99))
      refine bodyPost_ret (results_cell_row rfl _ _ gb270 34 #[.bool (t271 == 0),.bool x278001_5,.int .i64 x278002_5,.int .i64 x278003_5,.int .i64 x278004_5,.slice Ao99 x278005_5.length co99] (0,0) _ rfl (by (with_reducible repeat (first|refine blk_drewN ?_ _|refine blk_drew ?_|refine blk_alloc ?_ _));refine blk_put (cs:=#[.bool (t271 == 0),.bool x278001_5,.int .i64 x278002_5,.int .i64 x278003_5,.int .i64 x278004_5,.slice none 0 0]) ?_ 5 _ rfl;(with_reducible repeat (first|refine blk_drewN ?_ _|refine blk_drew ?_|refine blk_alloc ?_ _));refine blk_put (cs:=#[.bool (t271 == 0),.bool x278001_5,.int .i64 x278002_5,.int .i64 x278003_5,.int .i64 0,.slice none 0 0]) ?_ 4 _ rfl;(with_reducible repeat (first|refine blk_drewN ?_ _|refine blk_drew ?_|refine blk_alloc ?_ _));refine blk_put (cs:=#[.bool (t271 == 0),.bool x278001_5,.int .i64 x278002_5,.int .i64 0,.int .i64 0,.slice none 0 0]) ?_ 3 _ rfl;(with_reducible repeat (first|refine blk_drewN ?_ _|refine blk_drew ?_|refine blk_alloc ?_ _));refine blk_put (cs:=#[.bool (t271 == 0),.bool x278001_5,.int .i64 0,.int .i64 0,.int .i64 0,.slice none 0 0]) ?_ 2 _ rfl;(with_reducible repeat (first|refine blk_drewN ?_ _|refine blk_drew ?_|refine blk_alloc ?_ _));refine blk_put (cs:=#[.bool (t271 == 0),.bool false,.int .i64 0,.int .i64 0,.int .i64 0,.slice none 0 0]) ?_ 1 _ rfl;(with_reducible repeat (first|refine blk_drewN ?_ _|refine blk_drew ?_|refine blk_alloc ?_ _));refine blk_put (cs:=#[.bool false,.bool false,.int .i64 0,.int .i64 0,.int .i64 0,.slice none 0 0]) ?_ 0 _ rfl;(with_reducible repeat (first|refine blk_drewN ?_ _|refine blk_drew ?_|refine blk_alloc ?_ _));exact BK270.out) Try.underlying34 rfl (by kernel_rfl)) rfl ?_
      exact ⟨_,by first|rfl|(simp [errW_none,errW_some] <;> rfl)|(simp [*,errW_none,errW_some] <;> rfl),by (with_reducible repeat (first|apply Kd.N_alloc|apply Kd.N_drewN|apply Kd.N_drew));exact Kd.N_mono (Kd.N_far (p:=⟨gb270,5,none⟩) (Kd.N_far (p:=⟨gb270,4,none⟩) (Kd.N_far (p:=⟨gb270,3,none⟩) (Kd.N_far (p:=⟨gb270,2,none⟩) (Kd.N_far (p:=⟨gb270,1,none⟩) (Kd.N_far (p:=⟨gb270,0,none⟩) (Kd.N_mono HO_278005.out (fun k_ hk=>(⟨hk,hk.2.1⟩:_∧k_ ≠ gb270))) (fun _ hk=>hk.2) (.bool (t271 == 0))) (fun _ hk=>hk.2) (.bool x278001_5)) (fun _ hk=>hk.2) (.int .i64 x278002_5)) (fun _ hk=>hk.2) (.int .i64 x278003_5)) (fun _ hk=>hk.2) (.int .i64 x278004_5)) (fun _ hk=>hk.2) (.slice Ao99 x278005_5.length co99)) (fun _ hk=>hk.1.1),by repeat (first|(with_reducible first|exact HI0.out|apply IsS92.alloc|apply IsS92.drewN|apply IsS92.drew|apply IsS92.set_1|refine IsS92.far ?_ NB0_270.out _|refine IsS92.far ?_ NB0_277.out _)|exact HI0.out),by repeat (first|(with_reducible first|exact HB.out|apply below_alloc|apply pw_below_drewN|apply below_drew1|refine below_set ?_ (IsS92.ge HI0.out)|refine below_set ?_ GE270.out|refine below_set ?_ GE277.out)|exact HB.out),by repeat (first|(with_reducible first|exact HK.out|apply KeepBut.set_|apply keep_drewN|apply keep_drew|apply keep_alloc|refine keep_far ?_ GW270.out _|refine keep_far ?_ GW277.out _)|exact HK.out)⟩
end Go.Proofs.Ytkhmopmfbocokaa.T
namespace Go.Proofs.Ytkhmopmfbocokaa.T
open Go.RowKit Go.Proofs.YtkhmopmfbocokaaW.PrintWords Go.Proofs.YtkhmopmfbocokaaW.PrintLast Go.Proofs.YtkhmopmfbocokaaW.PrintMore
attribute [local go_sem] max2_int max_two
set_option linter.unusedVariables false
set_option linter.unusedSimpArgs false
end Go.Proofs.Ytkhmopmfbocokaa.T
namespace Go.Proofs.Ytkhmopmfbocokaa.T
open Go.RowKit Go.Proofs.YtkhmopmfbocokaaW.PrintWords Go.Proofs.YtkhmopmfbocokaaW.PrintLast Go.Proofs.YtkhmopmfbocokaaW.PrintMore
attribute [local go_sem] max2_int max_two
set_option linter.unusedVariables false
set_option linter.unusedSimpArgs false
def impl_baseValid.f (a0:Int) (a1:Int):Option (Bool):=(impl_within.f a0 0 99999).bind fun t360=>(if t360=true then ((impl_within.f a1 0 99999).bind fun t361=>(some t361)) else (some false))
set_option maxHeartbeats 8000000 in
set_option maxRecDepth 100000 in
theorem impl_baseValid.calls (a0:Int) (a1:Int) (r:Bool) (w:World) (h:impl_baseValid.f a0 a1=some r) :
  Calls Try.prog 72 #[.int .i64 a0,.int .i64 a1] w fun e w'=>e = .returned (.bool r)∧Drawn0 w w':=by
 have H:((impl_within.f a0 0 99999).bind fun t360=>(if t360=true then ((impl_within.f a1 0 99999).bind fun t361=>(some t361)) else (some false)))=some r:=h
 clear h
 replace H:=Option.bind_eq_some_iff.mp H
 obtain ⟨t360,A30,H⟩:=H
 replace H:(if t360=true then ((impl_within.f a1 0 99999).bind fun t361=>(some t361)) else (some false))=some r:=H
 have A3:=Aside0.mk A30
 clear A30
 by_cases c4:t360=true
 ·subst c4
  have H1:((impl_within.f a1 0 99999).bind fun t361=>(some t361))=some r:=by rw [if_pos rfl] at H;exact H
  clear H
  have H:=H1
  clear H1
  replace H:=Option.bind_eq_some_iff.mp H
  obtain ⟨t361,A50,H⟩:=H
  replace H:(some t361)=some r:=H
  have A5:=Aside0.mk A50
  clear A50
  obtain rfl:=Option.some.inj H
  go_enter Try.func72,Try.ntmps72
  go_wp2_with (first|((with_reducible refine gate_callee (f:=52) rfl ?_);refine goesL_ (some 6) rfl rfl Try.func52 (by kernel_rfl) rfl #[.int .i64 a0,.int .i64 0,.int .i64 99999] rfl (by (try simp only [map_toArray,map_cons,map_nil]);first|done|rfl|(simp only [length_drop,length_take];rfl)) ?_;(with_reducible refine (impl_within.calls a0 0 99999 true _ A3.out).mono ?_);rintro e w' ⟨rfl,⟨nd,rfl⟩⟩;refine ⟨_,rfl,?_⟩)|(go_at_call 52;(with_reducible refine (impl_within.calls a1 0 99999 t361 _ A5.out).mono ?_);rintro e w' ⟨rfl,⟨nd,rfl⟩⟩))
  go_ret
  exact ⟨by first|rfl|(simp;done)|(simp [*];done),by repeat (first|exact Drawn0.refl _|apply Drawn0.step)⟩
 ·replace c4:=Bool.eq_false_iff.mpr c4
  subst c4
  have H1:(some false)=some r:=by rw [if_neg (show ¬ (false=true) by decide)] at H;exact H
  clear H
  have H:=H1
  clear H1
  obtain rfl:=Option.some.inj H
  go_enter Try.func72,Try.ntmps72
  go_wp2_with (first|((with_reducible refine gate_callee (f:=52) rfl ?_);refine goesL_ (some 6) rfl rfl Try.func52 (by kernel_rfl) rfl #[.int .i64 a0,.int .i64 0,.int .i64 99999] rfl (by (try simp only [map_toArray,map_cons,map_nil]);first|done|rfl|(simp only [length_drop,length_take];rfl)) ?_;(with_reducible refine (impl_within.calls a0 0 99999 false _ A3.out).mono ?_);rintro e w' ⟨rfl,⟨nd,rfl⟩⟩;refine ⟨_,rfl,?_⟩))
  go_ret
  exact ⟨by first|rfl|(simp;done)|(simp [*];done),by repeat (first|exact Drawn0.refl _|apply Drawn0.step)⟩
def impl_isByte.f (a0:Int):Option (Bool):=if a0 ≥ 0 then (some (decide (a0 ≤ 255))) else (some false)
set_option maxHeartbeats 8000000 in
set_option maxRecDepth 100000 in
theorem impl_isByte.calls (a0:Int) (r:Bool) (w:World) (h:impl_isByte.f a0=some r) :
  Calls Try.prog 84 #[.int .i64 a0] w fun e w'=>e = .returned (.bool r)∧Drawn0 w w':=by
 have H:(if a0 ≥ 0 then (some (decide (a0 ≤ 255))) else (some false))=some r:=h
 clear h
 by_cases c2:a0 ≥ 0
 ·rw [if_pos c2] at H
  have c2b0:decide (0 ≤ a0)=true:=decide_eq_true c2
  clear c2
  obtain rfl:=Option.some.inj H
  go_enter Try.func84,Try.ntmps84
  go_wp2
  go_ret
  exact ⟨by first|rfl|(simp;done)|(simp [*];done),by repeat (first|exact Drawn0.refl _|apply Drawn0.step)⟩
 ·rw [if_neg c2] at H
  have c2b0:decide (0 ≤ a0)=false:=decide_eq_false c2
  clear c2
  obtain rfl:=Option.some.inj H
  go_enter Try.func84,Try.ntmps84
  go_wp2
  go_ret
  exact ⟨by first|rfl|(simp;done)|(simp [*];done),by repeat (first|exact Drawn0.refl _|apply Drawn0.step)⟩
end Go.Proofs.Ytkhmopmfbocokaa.T
namespace Go.Proofs.Ytkhmopmfbocokaa.T
open Go.RowKit Go.Proofs.YtkhmopmfbocokaaW.PrintWords Go.Proofs.YtkhmopmfbocokaaW.PrintLast Go.Proofs.YtkhmopmfbocokaaW.PrintMore
attribute [local go_sem] max2_int max_two
set_option linter.unusedVariables false
set_option linter.unusedSimpArgs false
def impl_allBytes.l0:Nat→List Int→Int→Int→Option (Bool)
 | 0,_,_,_=>none
 | k+1,x5,x6,x7=>if x7 < x6 then (if 0 ≤ x7 then (if x7 < (x5.length:Int) then ((impl_isByte.f (rd x5 x7)).bind fun t363=>(if t363=true then (impl_allBytes.l0 k x5 x6 (wrap64 (x7+1))) else (some false))) else (none)) else (none)) else (some true)
def impl_allBytes.f (k:Nat) (l0:List Int):Option (Bool):=impl_allBytes.l0 k l0 (l0.length:Int) 0
set_option maxHeartbeats 8000000 in
set_option maxRecDepth 100000 in
theorem impl_allBytes.calls (k:Nat) (A0:Option Addr) (c0:Nat) (l0:List Int) (r:Bool) (w:World) (hr0:Kd.C (Kd.int .i64) w A0 l0.length l0) (hc0:l0.length ≤ c0) (h:impl_allBytes.f k l0=some r) :
  Calls Try.prog 79 #[.slice A0 l0.length c0] w fun e w'=>e = .returned (.bool r)∧Drawn0 w w':=by
 have HR0:=Aside0.mk hr0
 have HC0:=Aside0.mk hc0
 clear hr0 hc0
 have H:(impl_allBytes.l0 k l0 (l0.length:Int) 0)=some r:=h
 clear h
 have H':=Aside0.mk H
 clear H
 go_enter Try.func79,Try.ntmps79
 go_wp2
 go_loopg [7] k (fun kq v7 w'=>∃ (x7_1:Int),v7 = .int .i64 x7_1∧Aside0 (impl_allBytes.l0 kq l0 (l0.length:Int) x7_1=some r)∧Aside0 (kq ≤ k)∧Drawn0 w w')
 case atStart=>exact ⟨(0),(by first|rfl|(simp;done)|(simp [*];done)),H',⟨Nat.le_refl _⟩,by repeat (first|exact Drawn0.refl _|apply Drawn0.step)⟩
 case round=>
  clear H'
  obtain ⟨x7_1,rfl,HA,HK1,⟨m1,rfl⟩⟩:=hrel
  cases gk with
  | zero=>exact absurd HA.out (by simp [impl_allBytes.l0])
  | succ k1=>
   have H:=HA.out
   clear HA
   simp only [impl_allBytes.l0] at H
   by_cases c2:x7_1 < (l0.length:Int)
   ·rw [if_pos c2] at H
    have c2b0:decide (x7_1 < (l0.length:Int))=true:=decide_eq_true c2
    clear c2
    by_cases c3 : 0 ≤ x7_1
    ·rw [if_pos c3] at H
     have c3b0:decide (0 ≤ x7_1)=true:=decide_eq_true c3
     clear c3
     by_cases c4:x7_1 < (l0.length:Int)
     ·rw [if_pos c4] at H
      have c4b0:decide (x7_1 < (l0.length:Int))=true:=decide_eq_true c4
      clear c4
      replace H:=Option.bind_eq_some_iff.mp H
      obtain ⟨t363,A50,H⟩:=H
      replace H:(if t363=true then (impl_allBytes.l0 k1 l0 (l0.length:Int) (wrap64 (x7_1+1))) else (some false))=some r:=H
      have A5:=Aside0.mk A50
      clear A50
      by_cases c6:t363=true
      ·subst c6
       have H1:(impl_allBytes.l0 k1 l0 (l0.length:Int) (wrap64 (x7_1+1)))=some r:=by rw [if_pos rfl] at H;exact H
       clear H
       have H:=H1
       clear H1
       have H':=Aside0.mk H
       clear H
       have p362 : 0 ≤ (x7_1:Int):=of_decide_eq_true (by first|(with_reducible assumption)|assumption)
       have q362:x7_1 < (l0.length:Int):=of_decide_eq_true (by first|(with_reducible assumption)|assumption)
       obtain ⟨ad362,e362,hx362_0⟩:=Kd.at_int HR0.out x7_1 p362 q362
       cases e362
       replace p362:=eq_true p362
       replace q362:=eq_true q362
       go_wp2_with (first|((with_reducible refine gate_callee (f:=84) rfl ?_);refine goesL_ (some 12) rfl rfl Try.func84 (by kernel_rfl) rfl #[.int .i64 (rd l0 x7_1)] rfl (by (try simp only [map_toArray,map_cons,map_nil]);first|done|rfl|(simp only [length_drop,length_take];rfl)) ?_;(with_reducible refine (impl_isByte.calls (rd l0 x7_1) true _ A5.out).mono ?_);rintro e w' ⟨rfl,⟨nd,rfl⟩⟩;refine ⟨_,rfl,?_⟩))
       go_roundg k1
       case measure=>have:=HK1.out;omega
       case rel=>exact ⟨(wrap64 (x7_1+1)),(by first|rfl|(simp;done)|(simp [*];done)),H',⟨by have:=HK1.out;omega⟩,by repeat (first|exact Drawn0.refl _|apply Drawn0.step)⟩
      ·replace c6:=Bool.eq_false_iff.mpr c6
       subst c6
       have H1:(some false)=some r:=by rw [if_neg (show ¬ (false=true) by decide)] at H;exact H
       clear H
       have H:=H1
       clear H1
       obtain rfl:=Option.some.inj H
       have p362 : 0 ≤ (x7_1:Int):=of_decide_eq_true (by first|(with_reducible assumption)|assumption)
       have q362:x7_1 < (l0.length:Int):=of_decide_eq_true (by first|(with_reducible assumption)|assumption)
       obtain ⟨ad362,e362,hx362_0⟩:=Kd.at_int HR0.out x7_1 p362 q362
       cases e362
       replace p362:=eq_true p362
       replace q362:=eq_true q362
       go_wp2_with (first|((with_reducible refine gate_callee (f:=84) rfl ?_);refine goesL_ (some 12) rfl rfl Try.func84 (by kernel_rfl) rfl #[.int .i64 (rd l0 x7_1)] rfl (by (try simp only [map_toArray,map_cons,map_nil]);first|done|rfl|(simp only [length_drop,length_take];rfl)) ?_;(with_reducible refine (impl_isByte.calls (rd l0 x7_1) false _ A5.out).mono ?_);rintro e w' ⟨rfl,⟨nd,rfl⟩⟩;refine ⟨_,rfl,?_⟩))
       go_ret
       exact ⟨by first|rfl|(simp;done)|(simp [*];done),by repeat (first|exact Drawn0.refl _|apply Drawn0.step)⟩
     ·rw [if_neg c4] at H
      exact absurd H (by simp)
    ·rw [if_neg c3] at H
     exact absurd H (by simp)
   ·rw [if_neg c2] at H
    have c2b0:decide (x7_1 < (l0.length:Int))=false:=decide_eq_false c2
    clear c2
    obtain rfl:=Option.some.inj H
    go_wp2
    go_ret
    exact ⟨by first|rfl|(simp;done)|(simp [*];done),by repeat (first|exact Drawn0.refl _|apply Drawn0.step)⟩
def impl_partValid.f (k:Nat) (a0:Bool) (l1:List Int):Option (Bool):=if a0=true then (if (l1.length:Int) ≤ 12 then ((impl_allBytes.f k l1).bind fun t364=>(some t364)) else (some false)) else (some ((l1.length:Int) == 0))
set_option maxHeartbeats 8000000 in
set_option maxRecDepth 100000 in
theorem impl_partValid.calls (k:Nat) (a0:Bool) (A1:Option Addr) (c1:Nat) (l1:List Int) (r:Bool) (w:World) (hr1:Kd.C (Kd.int .i64) w A1 l1.length l1) (hc1:l1.length ≤ c1) (h:impl_partValid.f k a0 l1=some r) :
  Calls Try.prog 73 #[.bool a0,.slice A1 l1.length c1] w fun e w'=>e = .returned (.bool r)∧Drawn0 w w':=by
 have HR1:=Aside0.mk hr1
 have HC1:=Aside0.mk hc1
 clear hr1 hc1
 have H:(if a0=true then (if (l1.length:Int) ≤ 12 then ((impl_allBytes.f k l1).bind fun t364=>(some t364)) else (some false)) else (some ((l1.length:Int) == 0)))=some r:=h
 clear h
 by_cases c3:a0=true
 ·subst c3
  have H1:(if (l1.length:Int) ≤ 12 then ((impl_allBytes.f k l1).bind fun t364=>(some t364)) else (some false))=some r:=by rw [if_pos rfl] at H;exact H
  clear H
  have H:=H1
  clear H1
  by_cases c4:(l1.length:Int) ≤ 12
  ·rw [if_pos c4] at H
   have c4b0:decide ((l1.length:Int) ≤ 12)=true:=decide_eq_true c4
   have c4b1:decide (l1.length ≤ 12)=true:=decide_eq_true (by omega)
   clear c4
   replace H:=Option.bind_eq_some_iff.mp H
   obtain ⟨t364,A50,H⟩:=H
   replace H:(some t364)=some r:=H
   have A5:=Aside0.mk A50
   clear A50
   obtain rfl:=Option.some.inj H
   go_enter Try.func73,Try.ntmps73
   go_wp2_with (first|(go_at_call 79;(with_reducible refine (impl_allBytes.calls k _ _ l1 t364 _ ?side1 ?side2 A5.out).mono ?_);(case side1=>repeat (first|exact HR1.out|(with_reducible refine Kd.C_alloc ?_ _)|(with_reducible refine Kd.C_drewN ?_ _)|(with_reducible refine Kd.C_drew ?_)));(case side2=>exact HC1.out);rintro e w' ⟨rfl,⟨nd,rfl⟩⟩))
   go_ret
   exact ⟨by first|rfl|(simp;done)|(simp [*];done),by repeat (first|exact Drawn0.refl _|apply Drawn0.step)⟩
  ·rw [if_neg c4] at H
   have c4b0:decide ((l1.length:Int) ≤ 12)=false:=decide_eq_false c4
   have c4b1:decide (l1.length ≤ 12)=false:=decide_eq_false (by omega)
   clear c4
   obtain rfl:=Option.some.inj H
   go_enter Try.func73,Try.ntmps73
   go_wp2
   go_ret
   exact ⟨by first|rfl|(simp;done)|(simp [*];done),by repeat (first|exact Drawn0.refl _|apply Drawn0.step)⟩
 ·replace c3:=Bool.eq_false_iff.mpr c3
  subst c3
  have H1:(some ((l1.length:Int) == 0))=some r:=by rw [if_neg (show ¬ (false=true) by decide)] at H;exact H
  clear H
  have H:=H1
  clear H1
  obtain rfl:=Option.some.inj H
  go_enter Try.func73,Try.ntmps73
  go_wp2
  go_ret
  exact ⟨by first|rfl|(simp;done)|(simp [*];done),by repeat (first|exact Drawn0.refl _|apply Drawn0.step)⟩
end Go.Proofs.Ytkhmopmfbocokaa.T
namespace Go.Proofs.Ytkhmopmfbocokaa.T
open Go.RowKit Go.Proofs.YtkhmopmfbocokaaW.PrintWords Go.Proofs.YtkhmopmfbocokaaW.PrintLast Go.Proofs.YtkhmopmfbocokaaW.PrintMore
attribute [local go_sem] max2_int max_two
set_option linter.unusedVariables false
set_option linter.unusedSimpArgs false
def impl_RecordValid.f (k:Nat) (a0_0:Int) (a0_1:Int) (a0_2:Bool) (l0_3:List Int) (a0_4:Bool) (l0_5:List Int):Option (Bool):=(impl_baseValid.f a0_0 a0_1).bind fun t366=>(if t366=true then ((impl_partValid.f k a0_2 l0_3).bind fun t367=>(if t367=true then ((impl_partValid.f k a0_4 l0_5).bind fun t368=>(some t368)) else (some false))) else (some false))
set_option maxHeartbeats 8000000 in
set_option maxRecDepth 100000 in
theorem impl_RecordValid.calls (k:Nat) (a0_0:Int) (a0_1:Int) (a0_2:Bool) (A0_3:Option Addr) (c0_3:Nat) (l0_3:List Int) (a0_4:Bool) (A0_5:Option Addr) (c0_5:Nat) (l0_5:List Int) (r:Bool) (w:World) (hr0_3:Kd.C (Kd.int .i64) w A0_3 l0_3.length l0_3) (hc0_3:l0_3.length ≤ c0_3) (hr0_5:Kd.C (Kd.int .i64) w A0_5 l0_5.length l0_5) (hc0_5:l0_5.length ≤ c0_5) (h:impl_RecordValid.f k a0_0 a0_1 a0_2 l0_3 a0_4 l0_5=some r) :
  Calls Try.prog 61 #[.agg #[.int .i64 a0_0,.int .i64 a0_1,.bool a0_2,.slice A0_3 l0_3.length c0_3,.bool a0_4,.slice A0_5 l0_5.length c0_5]] w fun e w'=>e = .returned (.bool r)∧Below w.heap.size w w':=by
 have hu79:=Try.underlying79
 have HR0_3:=Aside0.mk hr0_3
 have HC0_3:=Aside0.mk hc0_3
 clear hr0_3 hc0_3
 have HR0_5:=Aside0.mk hr0_5
 have HC0_5:=Aside0.mk hc0_5
 clear hr0_5 hc0_5
 have HB:=Aside0.mk (Below.refl w.heap.size w)
 have H:((impl_baseValid.f a0_0 a0_1).bind fun t366=>(if t366=true then ((impl_partValid.f k a0_2 l0_3).bind fun t367=>(if t367=true then ((impl_partValid.f k a0_4 l0_5).bind fun t368=>(some t368)) else (some false))) else (some false)))=some r:=h
 clear h
 replace H:=Option.bind_eq_some_iff.mp H
 obtain ⟨t366,A20,H⟩:=H
 replace H:(if t366=true then ((impl_partValid.f k a0_2 l0_3).bind fun t367=>(if t367=true then ((impl_partValid.f k a0_4 l0_5).bind fun t368=>(some t368)) else (some false))) else (some false))=some r:=H
 have A2:=Aside0.mk A20
 clear A20
 by_cases c3:t366=true
 ·subst c3
  have H1:((impl_partValid.f k a0_2 l0_3).bind fun t367=>(if t367=true then ((impl_partValid.f k a0_4 l0_5).bind fun t368=>(some t368)) else (some false)))=some r:=by rw [if_pos rfl] at H;exact H
  clear H
  have H:=H1
  clear H1
  replace H:=Option.bind_eq_some_iff.mp H
  obtain ⟨t367,A40,H⟩:=H
  replace H:(if t367=true then ((impl_partValid.f k a0_4 l0_5).bind fun t368=>(some t368)) else (some false))=some r:=H
  have A4:=Aside0.mk A40
  clear A40
  by_cases c5:t367=true
  ·subst c5
   have H1:((impl_partValid.f k a0_4 l0_5).bind fun t368=>(some t368))=some r:=by rw [if_pos rfl] at H;exact H
   clear H
   have H:=H1
   clear H1
   replace H:=Option.bind_eq_some_iff.mp H
   obtain ⟨t368,A60,H⟩:=H
   replace H:(some t368)=some r:=H
   have A6:=Aside0.mk A60
   clear A60
   obtain rfl:=Option.some.inj H
   go_enter Try.func61,Try.ntmps61
   go_wp2_with (first|((with_reducible refine gate_dst (N:=1) rfl ?_);refine box_event ?hg (N:=1) ?hd (cs:=#[.int .i64 a0_0,.int .i64 a0_1,.bool a0_2,.slice A0_3 l0_3.length c0_3,.bool a0_4,.slice A0_5 l0_5.length c0_5]) (t:=79) ?hr ?_;(case hd=>rfl);(case hg=>rfl);(case hr=>first|(go_simp;done)|(go_simp;rfl));intro gb365 hg w7 hbox hb;have n0_:=Aside0.mk (below_step (by repeat (first|(with_reducible first|exact HB.out|apply below_alloc|apply pw_below_drewN|apply below_drew1)|exact HB.out)) hb);have n1_:=Aside0.mk (hbox);have n2_:=Aside0.mk ((by rw [hg];exact (below_size (by repeat (first|(with_reducible first|exact HB.out|apply below_alloc|apply pw_below_drewN|apply below_drew1)|exact HB.out))):w.heap.size ≤ gb365));have n3_:=Aside0.mk ((by rw [hg];exact (below_size (by repeat (first|(with_reducible first|exact HB.out|apply below_alloc|apply pw_below_drewN|apply below_drew1)|exact HB.out))):w.heap.size ≤ gb365));clear HB;have HB:=n0_;have BK365:=n1_;have GW365:=n2_;have GE365:=n3_;clear n0_ n1_ n2_ n3_;clear hb hbox hg;have hcz8_0:w7.cell? ⟨gb365,0,none⟩=some (.int .i64 a0_0):=(blk_cell BK365.out 0).trans rfl;have hcz8_1:w7.cell? ⟨gb365,1,none⟩=some (.int .i64 a0_1):=(blk_cell BK365.out 1).trans rfl;have hcz8_2:w7.cell? ⟨gb365,2,none⟩=some (.bool a0_2):=(blk_cell BK365.out 2).trans rfl;have hcz8_3:w7.cell? ⟨gb365,3,none⟩=some (.slice A0_3 l0_3.length c0_3):=(blk_cell BK365.out 3).trans rfl;have hcz8_4:w7.cell? ⟨gb365,4,none⟩=some (.bool a0_4):=(blk_cell BK365.out 4).trans rfl;have hcz8_5:w7.cell? ⟨gb365,5,none⟩=some (.slice A0_5 l0_5.length c0_5):=(blk_cell BK365.out 5).trans rfl;have hfz8_0:=blk_frozen BK365.out 0;have hfz8_1:=blk_frozen BK365.out 1;have hfz8_2:=blk_frozen BK365.out 2;have hfz8_3:=blk_frozen BK365.out 3;have hfz8_4:=blk_frozen BK365.out 4;have hfz8_5:=blk_frozen BK365.out 5)|((with_reducible refine gate_callee (f:=72) rfl ?_);refine goesL_ (some 7) rfl rfl Try.func72 (by kernel_rfl) rfl #[.int .i64 a0_0,.int .i64 a0_1] rfl (by (try simp only [map_toArray,map_cons,map_nil]);first|done|rfl|(simp only [length_drop,length_take];rfl)) ?_;(with_reducible refine (impl_baseValid.calls a0_0 a0_1 true _ A2.out).mono ?_);rintro e w' ⟨rfl,⟨nd,rfl⟩⟩;refine ⟨_,rfl,?_⟩)|(go_at_call 73;(with_reducible refine (impl_partValid.calls k a0_2 _ _ l0_3 true _ ?side1 ?side2 A4.out).mono ?_);(case side1=>repeat (first|exact (Kd.C_below HR0_3.out (by repeat (first|(with_reducible first|exact HB.out|apply below_alloc|apply pw_below_drewN|apply below_drew1|refine below_set ?_ GE365.out)|exact HB.out)))|(with_reducible refine Kd.C_alloc ?_ _)|(with_reducible refine Kd.C_drewN ?_ _)|(with_reducible refine Kd.C_drew ?_)));(case side2=>exact HC0_3.out);rintro e w' ⟨rfl,⟨nd,rfl⟩⟩)|(go_at_call 73;(with_reducible refine (impl_partValid.calls k a0_4 _ _ l0_5 t368 _ ?side1 ?side2 A6.out).mono ?_);(case side1=>repeat (first|exact (Kd.C_below HR0_5.out (by repeat (first|(with_reducible first|exact HB.out|apply below_alloc|apply pw_below_drewN|apply below_drew1|refine below_set ?_ GE365.out)|exact HB.out)))|(with_reducible refine Kd.C_alloc ?_ _)|(with_reducible refine Kd.C_drewN ?_ _)|(with_reducible refine Kd.C_drew ?_)));(case side2=>exact HC0_5.out);rintro e w' ⟨rfl,⟨nd,rfl⟩⟩))
   go_ret
   exact ⟨by first|rfl|(simp [errW_none,errW_some] <;> rfl)|(simp [*,errW_none,errW_some] <;> rfl),by repeat (first|(with_reducible first|exact HB.out|apply below_alloc|apply pw_below_drewN|apply below_drew1|refine below_set ?_ GE365.out)|exact HB.out)⟩
  ·replace c5:=Bool.eq_false_iff.mpr c5
   subst c5
   have H1:(some false)=some r:=by rw [if_neg (show ¬ (false=true) by decide)] at H;exact H
   clear H
   have H:=H1
   clear H1
   obtain rfl:=Option.some.inj H
   go_enter Try.func61,Try.ntmps61
   go_wp2_with (first|((with_reducible refine gate_dst (N:=1) rfl ?_);refine box_event ?hg (N:=1) ?hd (cs:=#[.int .i64 a0_0,.int .i64 a0_1,.bool a0_2,.slice A0_3 l0_3.length c0_3,.bool a0_4,.slice A0_5 l0_5.length c0_5]) (t:=79) ?hr ?_;(case hd=>rfl);(case hg=>rfl);(case hr=>first|(go_simp;done)|(go_simp;rfl));intro gb365 hg w9 hbox hb;have n0_:=Aside0.mk (below_step (by repeat (first|(with_reducible first|exact HB.out|apply below_alloc|apply pw_below_drewN|apply below_drew1)|exact HB.out)) hb);have n1_:=Aside0.mk (hbox);have n2_:=Aside0.mk ((by rw [hg];exact (below_size (by repeat (first|(with_reducible first|exact HB.out|apply below_alloc|apply pw_below_drewN|apply below_drew1)|exact HB.out))):w.heap.size ≤ gb365));have n3_:=Aside0.mk ((by rw [hg];exact (below_size (by repeat (first|(with_reducible first|exact HB.out|apply below_alloc|apply pw_below_drewN|apply below_drew1)|exact HB.out))):w.heap.size ≤ gb365));clear HB;have HB:=n0_;have BK365:=n1_;have GW365:=n2_;have GE365:=n3_;clear n0_ n1_ n2_ n3_;clear hb hbox hg;have hcz10_0:w9.cell? ⟨gb365,0,none⟩=some (.int .i64 a0_0):=(blk_cell BK365.out 0).trans rfl;have hcz10_1:w9.cell? ⟨gb365,1,none⟩=some (.int .i64 a0_1):=(blk_cell BK365.out 1).trans rfl;have hcz10_2:w9.cell? ⟨gb365,2,none⟩=some (.bool a0_2):=(blk_cell BK365.out 2).trans rfl;have hcz10_3:w9.cell? ⟨gb365,3,none⟩=some (.slice A0_3 l0_3.length c0_3):=(blk_cell BK365.out 3).trans rfl;have hcz10_4:w9.cell? ⟨gb365,4,none⟩=some (.bool a0_4):=(blk_cell BK365.out 4).trans rfl;have hcz10_5:w9.cell? ⟨gb365,5,none⟩=some (.slice A0_5 l0_5.length c0_5):=(blk_cell BK365.out 5).trans rfl;have hfz10_0:=blk_frozen BK365.out 0;have hfz10_1:=blk_frozen BK365.out 1;have hfz10_2:=blk_frozen BK365.out 2;have hfz10_3:=blk_frozen BK365.out 3;have hfz10_4:=blk_frozen BK365.out 4;have hfz10_5:=blk_frozen BK365.out 5)|((with_reducible refine gate_callee (f:=72) rfl ?_);refine goesL_ (some 7) rfl rfl Try.func72 (by kernel_rfl) rfl #[.int .i64 a0_0,.int .i64 a0_1] rfl (by (try simp only [map_toArray,map_cons,map_nil]);first|done|rfl|(simp only [length_drop,length_take];rfl)) ?_;(with_reducible refine (impl_baseValid.calls a0_0 a0_1 true _ A2.out).mono ?_);rintro e w' ⟨rfl,⟨nd,rfl⟩⟩;refine ⟨_,rfl,?_⟩)|(go_at_call 73;(with_reducible refine (impl_partValid.calls k a0_2 _ _ l0_3 false _ ?side1 ?side2 A4.out).mono ?_);(case side1=>repeat (first|exact (Kd.C_below HR0_3.out (by repeat (first|(with_reducible first|exact HB.out|apply below_alloc|apply pw_below_drewN|apply below_drew1|refine below_set ?_ GE365.out)|exact HB.out)))|(with_reducible refine Kd.C_alloc ?_ _)|(with_reducible refine Kd.C_drewN ?_ _)|(with_reducible refine Kd.C_drew ?_)));(case side2=>exact HC0_3.out);rintro e w' ⟨rfl,⟨nd,rfl⟩⟩))
   go_ret
   exact ⟨by first|rfl|(simp [errW_none,errW_some] <;> rfl)|(simp [*,errW_none,errW_some] <;> rfl),by repeat (first|(with_reducible first|exact HB.out|apply below_alloc|apply pw_below_drewN|apply below_drew1|refine below_set ?_ GE365.out)|exact HB.out)⟩
 ·replace c3:=Bool.eq_false_iff.mpr c3
  subst c3
  have H1:(some false)=some r:=by rw [if_neg (show ¬ (false=true) by decide)] at H;exact H
  clear H
  have H:=H1
  clear H1
  obtain rfl:=Option.some.inj H
  go_enter Try.func61,Try.ntmps61
  go_wp2_with (first|((with_reducible refine gate_dst (N:=1) rfl ?_);refine box_event ?hg (N:=1) ?hd (cs:=#[.int .i64 a0_0,.int .i64 a0_1,.bool a0_2,.slice A0_3 l0_3.length c0_3,.bool a0_4,.slice A0_5 l0_5.length c0_5]) (t:=79) ?hr ?_;(case hd=>rfl);(case hg=>rfl);(case hr=>first|(go_simp;done)|(go_simp;rfl));intro gb365 hg w11 hbox hb;have n0_:=Aside0.mk (below_step (by repeat (first|(with_reducible first|exact HB.out|apply below_alloc|apply pw_below_drewN|apply below_drew1)|exact HB.out)) hb);have n1_:=Aside0.mk (hbox);have n2_:=Aside0.mk ((by rw [hg];exact (below_size (by repeat (first|(with_reducible first|exact HB.out|apply below_alloc|apply pw_below_drewN|apply below_drew1)|exact HB.out))):w.heap.size ≤ gb365));have n3_:=Aside0.mk ((by rw [hg];exact (below_size (by repeat (first|(with_reducible first|exact HB.out|apply below_alloc|apply pw_below_drewN|apply below_drew1)|exact HB.out))):w.heap.size ≤ gb365));clear HB;have HB:=n0_;have BK365:=n1_;have GW365:=n2_;have GE365:=n3_;clear n0_ n1_ n2_ n3_;clear hb hbox hg;have hcz12_0:w11.cell? ⟨gb365,0,none⟩=some (.int .i64 a0_0):=(blk_cell BK365.out 0).trans rfl;have hcz12_1:w11.cell? ⟨gb365,1,none⟩=some (.int .i64 a0_1):=(blk_cell BK365.out 1).trans rfl;have hcz12_2:w11.cell? ⟨gb365,2,none⟩=some (.bool a0_2):=(blk_cell BK365.out 2).trans rfl;have hcz12_3:w11.cell? ⟨gb365,3,none⟩=some (.slice A0_3 l0_3.length c0_3):=(blk_cell BK365.out 3).trans rfl;have hcz12_4:w11.cell? ⟨gb365,4,none⟩=some (.bool a0_4):=(blk_cell BK365.out 4).trans rfl;have hcz12_5:w11.cell? ⟨gb365,5,none⟩=some (.slice A0_5 l0_5.length c0_5):=(blk_cell BK365.out 5).trans rfl;have hfz12_0:=blk_frozen BK365.out 0;have hfz12_1:=blk_frozen BK365.out 1;have hfz12_2:=blk_frozen BK365.out 2;have hfz12_3:=blk_frozen BK365.out 3;have hfz12_4:=blk_frozen BK365.out 4;have hfz12_5:=blk_frozen BK365.out 5)|((with_reducible refine gate_callee (f:=72) rfl ?_);refine goesL_ (some 7) rfl rfl Try.func72 (by kernel_rfl) rfl #[.int .i64 a0_0,.int .i64 a0_1] rfl (by (try simp only [map_toArray,map_cons,map_nil]);first|done|rfl|(simp only [length_drop,length_take];rfl)) ?_;(with_reducible refine (impl_baseValid.calls a0_0 a0_1 false _ A2.out).mono ?_);rintro e w' ⟨rfl,⟨nd,rfl⟩⟩;refine ⟨_,rfl,?_⟩))
  go_ret
  exact ⟨by first|rfl|(simp [errW_none,errW_some] <;> rfl)|(simp [*,errW_none,errW_some] <;> rfl),by repeat (first|(with_reducible first|exact HB.out|apply below_alloc|apply pw_below_drewN|apply below_drew1|refine below_set ?_ GE365.out)|exact HB.out)⟩
end Go.Proofs.Ytkhmopmfbocokaa.T
