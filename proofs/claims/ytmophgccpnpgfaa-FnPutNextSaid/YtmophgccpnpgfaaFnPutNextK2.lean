/- The law FnPutNext holds (part 3 of 5; merged by pack2.py). -/
import Derived.IntWalk
import Derived.Test.YtmophgccpnpgfaaFnPutNextK1
set_option maxRecDepth 1000000
open List (setIfInBounds_toArray set_cons_zero set_cons_succ map_toArray map_cons map_nil length_drop length_take)
namespace Go.Proofs.Ytmophgccpnpgfaa.T
open Go.RowKit Go.Proofs.YtmophgccpnpgfaaW.PrintWords Go.Proofs.YtmophgccpnpgfaaW.PrintLast Go.Proofs.YtmophgccpnpgfaaW.PrintMore
attribute [local go_sem] max2_int max_two
set_option linter.unusedVariables false
set_option linter.unusedSimpArgs false
def Qf.j0:Nat→List (S67)→Bool→List Int→Int→Bool→Bool→Int→Int→Int→List (S75)→Option ((List (S67))×Bool×Bool×Int×Int×Int×(List (S75))×Int)
 | 0,_,_,_,_,_,_,_,_,_,_=>none
 | k+1,x4,x20,x1000,x1001,x249000,x249001,x249002,x249003,x249004,x249005=>if x20=true then ((Qb.f k x1000 x1001 (x4.length:Int)).bind fun bt251=>(if 0≤bt251.1 then (if bt251.1 < (x4.length:Int) then ((Qb.f k x1000 bt251.2 6).bind fun bt255=>(if bt255.1=0 then ((Qb.f k x1000 bt255.2 5).bind fun bt257=>(some (x4,x249000,x249001,(Qd x4 bt251.1).f0,(Qd x4 bt251.1).f1,mx (wrap64 ((wrap64 (((Qd x4 bt251.1).f2)+bt257.1)) - 2)) 0,x249005,bt257.2))) else (if bt255.1=1 then ((Qb.f k x1000 bt255.2 3).bind fun bt259=>((Qb.f k x1000 bt259.2 2).bind fun bt261=>(some (x4,x249000,x249001,(Qd x4 bt251.1).f0,mx (wrap64 ((wrap64 (((Qd x4 bt251.1).f1)+bt259.1)) - 1)) 0,bt261.1,x249005,bt261.2)))) else (some (x4,x249000,x249001,(Qd x4 bt251.1).f0,(Qd x4 bt251.1).f1,(Qd x4 bt251.1).f2,x249005,bt255.2))))) else (none)) else (none))) else (some (x4,x249000,x249001,x249002,x249003,x249004,x249005,x1001))
def Qf.f (k:Nat) (s0_0:List Int) (s0_1:Int):Option ((List (S67))×Bool×Bool×Int×Int×Int×(List (S75))×Int):=(Qi.f k s0_0 s0_1).bind fun bt233=>((Qb.f k s0_0 bt233.2 40).bind fun bt237=>((Qh.f k s0_0 bt237.2 bt237.1).bind fun bt239=>(if (bt233.1.length:Int) > 0 then ((Qb.f k s0_0 bt239.2.2.2.2.2.2 4).bind fun bt249=>(Qf.j0 k bt233.1 (decide (bt249.1 > 0)) s0_0 bt249.2 bt239.1 bt239.2.1 bt239.2.2.1 bt239.2.2.2.1 bt239.2.2.2.2.1 bt239.2.2.2.2.2.1)) else (Qf.j0 k bt233.1 false s0_0 bt239.2.2.2.2.2.2 bt239.1 bt239.2.1 bt239.2.2.1 bt239.2.2.2.1 bt239.2.2.2.2.1 bt239.2.2.2.2.2.1))))
def Qf.T10:Bool×List (List Nat×List Nat):=(true,[([],[]),([0],[0]),([],[]),([2],[2]),([1,3],[1,3]),([4],[4]),([5],[5]),([0,1,2,3,4,5,6],[]),([7,6,3,0,1,2,3,4,5,6],[6,7])])
def Qf.B10:List Nat:=[0,1,0,4,15,31,63,127,255]
theorem Qf.tab10:rtab .any (opsOf Try.f30 10)=Qf.T10:=by kernel_rfl
theorem Qf.bits10:waitsOk Qf.T10.2 Qf.B10=true:=by kernel_rfl
def Qf.T12:Bool×List (List Nat×List Nat):=(true,[([],[]),([0],[0]),([],[]),([2],[2]),([1,3],[1,3]),([4],[4]),([5],[5]),([0,1,2,3,4,5,6],[]),([7,6,3,0,1,2,3,4,5,6],[6,7])])
def Qf.B12:List Nat:=[0,1,0,4,15,31,63,127,255]
theorem Qf.tab12:rtab .any (opsOf Try.f30 12)=Qf.T12:=by kernel_rfl
theorem Qf.bits12:waitsOk Qf.T12.2 Qf.B12=true:=by kernel_rfl
set_option maxHeartbeats 8000000 in
theorem Qf.calls (k:Nat) (g:Nat) (b9:List Int) (k7:Int) (r1:List (S67)) (r2:Bool) (r3:Bool) (r4:Int) (r5:Int) (r6:Int) (r7:List (S75)) (r8:Int) (w0 w:World) (hI:Qa w0 w g b9 k7) (hB:Below w0.heap.size w0 w) (h:Qf.f k b9 k7=some (r1,r2,r3,r4,r5,r6,r7,r8)) :
  Calls Try.prog 30 #[.pointer (some ⟨g,0,none⟩)] w fun e w'=>∃ p4 q8:Value,e = .returned (.tuple #[p4,.agg #[.bool r2,.bool r3,.int .i64 r4,.int .i64 r5,.int .i64 r6,q8]])∧Kd.R k67 67 w' w.heap.size (fun k_=>(w.heap.size≤k_)) p4 r1∧Kd.N k75 75 w' w.heap.size (fun k_=>(w.heap.size≤k_)∧some k_≠(p4:Value).ownBlock) q8 r7∧Qa w0 w' g b9 r8∧Below w0.heap.size w0 w'∧KeepBut w w' g none:=by
 have hu26:=Try.underlying26;have hu67:=Try.underlying67;have a8:=zzm hI;have HK:=zzm (KeepBut.refl w g none);have HL:=zzm hB.size;clear hI;have HW0:=zzm hB.size;have HB:=zzm hB;clear hB;have H:((Qi.f k b9 k7).bind fun k9=>((Qb.f k b9 k9.2 40).bind fun k2=>((Qh.f k b9 k2.2 k2.1).bind fun d4=>(if (k9.1.length:Int) > 0 then ((Qb.f k b9 d4.2.2.2.2.2.2 4).bind fun g7=>(Qf.j0 k k9.1 (decide (g7.1 > 0)) b9 g7.2 d4.1 d4.2.1 d4.2.2.1 d4.2.2.2.1 d4.2.2.2.2.1 d4.2.2.2.2.2.1)) else (Qf.j0 k k9.1 false b9 d4.2.2.2.2.2.2 d4.1 d4.2.1 d4.2.2.1 d4.2.2.2.1 d4.2.2.2.2.1 d4.2.2.2.2.2.1)))))=some (r1,r2,r3,r4,r5,r6,r7,r8):=h;clear h;replace H:=zzH H;obtain ⟨⟨a2,m5⟩,q9,H⟩:=H;replace H:((Qb.f k b9 m5 40).bind fun k2=>((Qh.f k b9 k2.2 k2.1).bind fun d4=>(if (a2.length:Int) > 0 then ((Qb.f k b9 d4.2.2.2.2.2.2 4).bind fun g7=>(Qf.j0 k a2 (decide (g7.1 > 0)) b9 g7.2 d4.1 d4.2.1 d4.2.2.1 d4.2.2.2.1 d4.2.2.2.2.1 d4.2.2.2.2.2.1)) else (Qf.j0 k a2 false b9 d4.2.2.2.2.2.2 d4.1 d4.2.1 d4.2.2.1 d4.2.2.2.1 d4.2.2.2.2.1 d4.2.2.2.2.2.1))))=some (r1,r2,r3,r4,r5,r6,r7,r8):=H;have A2:=zzm q9;clear q9;replace H:=zzH H;obtain ⟨⟨m6,m7⟩,r0,H⟩:=H;replace H:((Qh.f k b9 m7 m6).bind fun d4=>(if (a2.length:Int) > 0 then ((Qb.f k b9 d4.2.2.2.2.2.2 4).bind fun g7=>(Qf.j0 k a2 (decide (g7.1 > 0)) b9 g7.2 d4.1 d4.2.1 d4.2.2.1 d4.2.2.2.1 d4.2.2.2.2.1 d4.2.2.2.2.2.1)) else (Qf.j0 k a2 false b9 d4.2.2.2.2.2.2 d4.1 d4.2.1 d4.2.2.1 d4.2.2.2.1 d4.2.2.2.2.1 d4.2.2.2.2.2.1)))=some (r1,r2,r3,r4,r5,r6,r7,r8):=H;have A3:=zzm r0;clear r0;replace H:=zzH H;obtain ⟨⟨b1,b2,e0,e1,e2,b5,j3⟩,r9,H⟩:=H;replace H:(if (a2.length:Int) > 0 then ((Qb.f k b9 j3 4).bind fun g7=>(Qf.j0 k a2 (decide (g7.1 > 0)) b9 g7.2 b1 b2 e0 e1 e2 b5)) else (Qf.j0 k a2 false b9 j3 b1 b2 e0 e1 e2 b5))=some (r1,r2,r3,r4,r5,r6,r7,r8):=H;have A4:=zzm r9;clear r9;have p5:=zzm H;clear H;go_enter Try.func30,Try.ntmps30;go_upto_region 3 with (first|((with_reducible refine gate_dst (N:=3) rfl ?_);refine box_event ?hg (N:=3) ?hd (cs:=#[.bool false,.bool false,.int .i64 0,.int .i64 0,.int .i64 0,.slice none 0 0]) (t:=26) ?hr ?_;(case hd=>rfl);(case hg=>rfl);(case hr=>first|(go_simp;done)|(go_simp;rfl));intro a1 hg w6 hbox hb;have c2:=zzm (Qa.below (by repeat (first|(with_reducible first|exact a8.out|apply Qa.alloc|apply Qa.drewN|apply Qa.drew|apply Qa.set_1)|exact a8.out)) hb);have c7:=zzm (KeepBut.trans (zzk3 HK) (KeepBut.of_below hb g none) (.inl rfl));have c8:=zzm (zzp (by repeat (first|(with_reducible first|exact HB.out|apply zza|apply zzb|apply zzc|refine zzd ?_ (Qa.ge a8.out))|exact HB.out)) hb);have c9:=zzm (hbox);have d0:=zzm ((by rw [hg];exact (keep_size (w:=w) (g:=g) (row:=none) (zzk3 HK)):w.heap.size≤a1));have d5:=zzm ((Nat.le_trans HW0.out (by rw [hg];exact (keep_size (w:=w) (g:=g) (row:=none) (zzk3 HK)):w.heap.size≤a1):w0.heap.size≤a1));have d7:=zzm ((by rw [hg];exact Nat.ne_of_lt (Qa.lt (show Qa w0 _ g b9 k7 from by repeat (first|(with_reducible first|exact a8.out|apply Qa.alloc|apply Qa.drewN|apply Qa.drew|apply Qa.set_1)|exact a8.out))):g≠a1));have d8:=zzm ((by rw [hg];exact Nat.ne_of_gt (Qa.lt (show Qa w0 _ g b9 k7 from by repeat (first|(with_reducible first|exact a8.out|apply Qa.alloc|apply Qa.drewN|apply Qa.drew|apply Qa.set_1)|exact a8.out))):a1≠g));clear a8 HK HB;have a8:=c2;have HK:=c7;have HB:=c8;have a5:=c9;have h7:=d0;have e4:=d5;have b3:=d7;have e7:=d8;clear c2 c7 c8 c9 d0 d5 d7 d8 hb hbox hg)|((with_reducible refine gate_callee (f:=48) rfl ?_);refine goesL_ (some 8) rfl rfl Try.func48 (by kernel_rfl) rfl #[.pointer (some ⟨g,0,none⟩)] rfl zzM2 ?_;(with_reducible refine (Qi.calls k g b9 k7 a2 m5 w0 _ ?side1 ?side2 A2.out).mono ?_);(case side1=>repeat (first|(with_reducible first|exact a8.out|apply Qa.alloc|apply Qa.drewN|apply Qa.drew|apply Qa.set_1|refine Qa.far ?_ b3.out _)|exact a8.out));(case side2=>repeat (first|(with_reducible first|exact HB.out|apply zza|apply zzb|apply zzc|refine zzd ?_ (Qa.ge a8.out)|refine zzd ?_ e4.out)|exact HB.out));rintro e w7 ⟨n3,rfl,ho0,hi,hb,hk⟩;refine ⟨_,rfl,?_⟩;have c2:=zzm (KeepBut.blk hk (g':=a1) (o:=.cells #[.bool false,.bool false,.int .i64 0,.int .i64 0,.int .i64 0,.slice none 0 0] 26 (0,0)) (zzE a5.out) e7.out (by simp));have c7:=zzm (Kd.R_lower (Kd.R_newM (M:=fun k_=>(w.heap.size≤k_)) ho0 (keep_size (w:=w) (g:=g) (row:=none) (zzk3 HK)) (fun k_ h_=>h_)) (keep_size (w:=w) (g:=g) (row:=none) (zzk3 HK)));have c8:=zzm (KeepBut.trans (zzk3 HK) hk (.inl rfl));have c9:=zzm (hb);have d0:=zzm (hi);clear a5 HK HB a8;have a5:=c2;have e8:=c7;have HK:=c8;have HB:=c9;have a8:=d0;clear c2 c7 c8 c9 d0;(try clear hb);(try clear hb2);(try clear hk);(try clear hi);(try clear ho0))|((with_reducible refine gate_callee (f:=50) rfl ?_);refine goesL_ (some 11) rfl rfl Try.func50 (by kernel_rfl) rfl #[.pointer (some ⟨g,0,none⟩),.int .i64 40] rfl zzM2 ?_;(with_reducible refine (Qb.calls k g b9 m5 40 m6 m7 w0 _ ?side1 ?side2 A3.out).mono ?_);(case side1=>repeat (first|(with_reducible first|exact a8.out|apply Qa.alloc|apply Qa.drewN|apply Qa.drew|apply Qa.set_1|refine Qa.far ?_ b3.out _)|exact a8.out));(case side2=>repeat (first|(with_reducible first|exact HB.out|apply zza|apply zzb|apply zzc|refine zzd ?_ (Qa.ge a8.out)|refine zzd ?_ e4.out)|exact HB.out));rintro e w8 ⟨rfl,hi,hb,hk⟩;refine ⟨_,rfl,?_⟩;have c2:=zzm (KeepBut.blk hk (g':=a1) (o:=.cells #[.bool false,.bool false,.int .i64 0,.int .i64 0,.int .i64 0,.slice none 0 0] 26 (0,0)) (zzE a5.out) e7.out (by simp));have c7:=zzm (Kd.R_mono (Kd.R_keep (Qa.apart (show Qa w0 _ g b9 m5 from by repeat (first|(with_reducible first|exact a8.out|apply Qa.alloc|apply Qa.drewN|apply Qa.drew|apply Qa.set_1|refine Qa.far ?_ b3.out _)|exact a8.out)) (by (with_reducible repeat (first|apply Kd.R_alloc|apply Kd.R_drewN|apply Kd.R_drew));exact e8.out) (by decide)) hk (fun _ h=>h.2)) (fun _ h=>h.1));have c8:=zzm (KeepBut.trans (zzk3 HK) hk (.inl rfl));have c9:=zzm (hb);have d0:=zzm (hi);clear a5 e8 HK HB a8;have a5:=c2;have e8:=c7;have HK:=c8;have HB:=c9;have a8:=d0;clear c2 c7 c8 c9 d0;(try clear hb);(try clear hb2);(try clear hk);(try clear hi))|((with_reducible refine gate_callee (f:=49) rfl ?_);refine goesL_ (some 12) rfl rfl Try.func49 (by kernel_rfl) rfl #[.pointer (some ⟨g,0,none⟩),.int .i64 m6] rfl zzM2 ?_;(with_reducible refine (Qh.calls k g b9 m7 m6 b1 b2 e0 e1 e2 b5 j3 w0 _ ?side1 ?side2 A4.out).mono ?_);(case side1=>repeat (first|(with_reducible first|exact a8.out|apply Qa.alloc|apply Qa.drewN|apply Qa.drew|apply Qa.set_1|refine Qa.far ?_ b3.out _)|exact a8.out));(case side2=>repeat (first|(with_reducible first|exact HB.out|apply zza|apply zzb|apply zzc|refine zzd ?_ (Qa.ge a8.out)|refine zzd ?_ e4.out)|exact HB.out));rintro e w9 ⟨S5,rfl,ho0,hi,hb,hk⟩;refine ⟨_,rfl,?_⟩;have c2:=zzm (KeepBut.blk hk (g':=a1) (o:=.cells #[.bool false,.bool false,.int .i64 0,.int .i64 0,.int .i64 0,.slice none 0 0] 26 (0,0)) (zzE a5.out) e7.out (by simp));have c7:=zzm (Kd.R_mono (Kd.R_keep (Qa.apart (show Qa w0 _ g b9 m7 from by repeat (first|(with_reducible first|exact a8.out|apply Qa.alloc|apply Qa.drewN|apply Qa.drew|apply Qa.set_1|refine Qa.far ?_ b3.out _)|exact a8.out)) (by (with_reducible repeat (first|apply Kd.R_alloc|apply Kd.R_drewN|apply Kd.R_drew));exact e8.out) (by decide)) hk (fun _ h=>h.2)) (fun _ h=>h.1));have c8:=zzm (Kd.N_lower (Kd.N_mono (ok':=fun k_=>(w.heap.size≤k_)∧some k_≠(n3:Value).ownBlock∧k_≠a1∧k_≠g) ho0 (fun k_ hk_=>⟨(Nat.le_trans (keep_size (w:=w) (g:=g) (row:=none) (zzk3 HK)) hk_),(Kd.fresh' (Kd.R_lt (by (with_reducible repeat (first|apply Kd.R_alloc|apply Kd.R_drewN|apply Kd.R_drew));exact e8.out)) k_ hk_),(Kd.freshB (g:=a1) (o:=.cells #[.bool false,.bool false,.int .i64 0,.int .i64 0,.int .i64 0,.slice none 0 0] 26 (0,0)) (zzE a5.out) k_ hk_),(Qa.fresh (by repeat (first|(with_reducible first|exact a8.out|apply Qa.alloc|apply Qa.drewN|apply Qa.drew|apply Qa.set_1|refine Qa.far ?_ b3.out _)|exact a8.out)) k_ hk_)⟩)) (keep_size (w:=w) (g:=g) (row:=none) (zzk3 HK)));have c9:=zzm (KeepBut.trans (zzk3 HK) hk (.inl rfl));have d0:=zzm (hb);have d5:=zzm (hi);clear a5 e8 HK HB a8;have a5:=c2;have e8:=c7;have h1:=c8;have HK:=c9;have HB:=d0;have a8:=d5;clear c2 c7 c8 c9 d0 d5;(try clear hb);(try clear hb2);(try clear hk);(try clear hi);(try clear ho0))|((with_reducible refine gate_dst (N:=5) rfl ?_);refine box_event ?hg (N:=5) ?hd (cs:=#[.bool false,.bool false,.int .i64 0,.int .i64 0,.int .i64 0,.slice none 0 0]) (t:=26) ?hr ?_;(case hd=>rfl);(case hg=>rfl);(case hr=>first|(go_simp;done)|(go_simp;rfl));intro a4 hg V2 hbox hb;have c2:=zzm (Kd.R_below (by (with_reducible repeat (first|apply Kd.R_alloc|apply Kd.R_drewN|apply Kd.R_drew));exact e8.out) hb);have c7:=zzm (Kd.N_below (Kd.N_elderB (zzN h1.out) a4 (Nat.le_of_eq hg.symm)) hb);have c8:=zzm (Qa.below (by repeat (first|(with_reducible first|exact a8.out|apply Qa.alloc|apply Qa.drewN|apply Qa.drew|apply Qa.set_1|refine Qa.far ?_ b3.out _)|exact a8.out)) hb);have c9:=zzm (zzh (g:=a1) (o:=.cells #[.bool false,.bool false,.int .i64 0,.int .i64 0,.int .i64 0,.slice none 0 0] 26 (0,0)) (zzE a5.out) hb);have d0:=zzm (KeepBut.trans (zzk3 HK) (KeepBut.of_below hb g none) (.inl rfl));have d5:=zzm (zzp (by repeat (first|(with_reducible first|exact HB.out|apply zza|apply zzb|apply zzc|refine zzd ?_ (Qa.ge a8.out)|refine zzd ?_ e4.out)|exact HB.out)) hb);have d7:=zzm (hbox);have d8:=zzm ((by rw [hg];exact (keep_size (w:=w) (g:=g) (row:=none) (zzk3 HK)):w.heap.size≤a4));have j4:=zzm ((Nat.le_trans HW0.out (by rw [hg];exact (keep_size (w:=w) (g:=g) (row:=none) (zzk3 HK)):w.heap.size≤a4):w0.heap.size≤a4));have j5:=zzm ((by rw [hg];exact Nat.ne_of_lt (blk_lt (g:=a1) (o:=.cells #[.bool false,.bool false,.int .i64 0,.int .i64 0,.int .i64 0,.slice none 0 0] 26 (0,0)) (zzE a5.out)):a1≠a4));have h2:=zzm ((by rw [hg];exact Nat.ne_of_gt (blk_lt (g:=a1) (o:=.cells #[.bool false,.bool false,.int .i64 0,.int .i64 0,.int .i64 0,.slice none 0 0] 26 (0,0)) (zzE a5.out)):a4≠a1));have h3:=zzm ((by rw [hg];exact Nat.ne_of_lt (Qa.lt (show Qa w0 _ g b9 j3 from by repeat (first|(with_reducible first|exact a8.out|apply Qa.alloc|apply Qa.drewN|apply Qa.drew|apply Qa.set_1|refine Qa.far ?_ b3.out _)|exact a8.out))):g≠a4));have h4:=zzm ((by rw [hg];exact Nat.ne_of_gt (Qa.lt (show Qa w0 _ g b9 j3 from by repeat (first|(with_reducible first|exact a8.out|apply Qa.alloc|apply Qa.drewN|apply Qa.drew|apply Qa.set_1|refine Qa.far ?_ b3.out _)|exact a8.out))):a4≠g));clear e8 h1 a8 a5 HK HB;have e8:=c2;have h1:=c7;have a8:=c8;have a5:=c9;have HK:=d0;have HB:=d5;have a7:=d7;have h8:=d8;have e5:=j4;have a9:=j5;have a0:=h2;have b8:=h3;have e6:=h4;clear c2 c7 c8 c9 d0 d5 d7 d8 j4 j5 h2 h3 h4 hb hbox hg;have M3:=a0.out;have M4:=a9.out;have M5:=e6.out;have M6:=b8.out;obtain ⟨o1,o2,o3,o4,o5,o6,o7,o8,o9,p0,p1,p3⟩:=zzc6 a7.out;obtain ⟨d2,d3,eo14⟩:=Kd.N_slice h1.out;subst eo14))
 (try simp only [Act.put,zzq,zzr,zzs]);go_cut [20] (fun L1 wc=>∃ (kq:Nat) (l1:Bool) (g2:Int),L1 = .bool l1∧Aside0 (Qf.j0 kq a2 l1 b9 g2 b1 b2 e0 e1 e2 b5=some (r1,r2,r3,r4,r5,r6,r7,r8))∧Aside0 (kq≤k)∧Aside0 (Kd.R k67 67 wc w.heap.size (fun k_=>(w.heap.size≤k_)) n3 a2)∧Aside0 (Kd.N k75 75 wc w.heap.size (fun k_=>(w.heap.size≤k_)∧some k_≠(n3:Value).ownBlock∧k_≠a1∧k_≠a4∧k_≠g) (.slice d2 b5.length d3) b5)∧Aside0 (wc.heap[a1]? = some (.cells #[.bool false,.bool false,.int .i64 0,.int .i64 0,.int .i64 0,(.slice none 0 0)] 26 (0,0)))∧Aside0 (wc.heap[a4]? = some (.cells #[.bool b1,.bool b2,.int .i64 e0,.int .i64 e1,.int .i64 e2,(.slice d2 b5.length d3)] 26 (0,0)))∧Aside0 (Qa w0 wc g b9 g2)∧Aside0 (KeepBut w wc g none)∧Aside0 (Below w0.heap.size w0 wc))
 case first=>
  have H:=p5.out;clear p5;by_cases l2:(a2.length:Int) > 0
  ·
   rw [if_pos l2] at H;have j9:decide (0 < (a2.length:Int))=true:=decide_eq_true l2;have n7:decide (0 < a2.length)=true:=decide_eq_true (by omega);clear l2
   (first|rw [j9]|(simp only [i64_w,i32_w];rw [j9])|skip);replace H:=zzH H;obtain ⟨⟨n4,n5⟩,p6,H⟩:=H;replace H:(Qf.j0 k a2 (decide (n4 > 0)) b9 n5 b1 b2 e0 e1 e2 b5)=some (r1,r2,r3,r4,r5,r6,r7,r8):=H;have L2:=zzm p6;clear p6;have H':=zzm H;clear H;obtain ⟨s8,s9,eo17⟩:=Kd.R_slice e8.out;subst eo17;go_wp2_with (first|(go_at_call 50;(with_reducible refine (Qb.calls k g b9 j3 4 n4 n5 w0 _ ?side1 ?side2 L2.out).mono ?_);(case side1=>repeat (first|(with_reducible first|exact a8.out|apply Qa.alloc|apply Qa.drewN|apply Qa.drew|apply Qa.set_1|refine Qa.far ?_ b3.out _|refine Qa.far ?_ b8.out _)|exact a8.out));(case side2=>repeat (first|(with_reducible first|exact HB.out|apply zza|apply zzb|apply zzc|refine zzd ?_ (Qa.ge a8.out)|refine zzd ?_ e4.out|refine zzd ?_ e5.out)|exact HB.out));rintro e V3 ⟨rfl,hi,hb,hk⟩;have c2:=zzm (KeepBut.blk hk (g':=a1) (o:=.cells #[.bool false,.bool false,.int .i64 0,.int .i64 0,.int .i64 0,.slice none 0 0] 26 (0,0)) (by (with_reducible repeat (first|apply zzf|apply zzg|apply zze));refine zzj ?_ a9.out _;(with_reducible repeat (first|apply zzf|apply zzg|apply zze));refine zzj ?_ a9.out _;(with_reducible repeat (first|apply zzf|apply zzg|apply zze));refine zzj ?_ a9.out _;(with_reducible repeat (first|apply zzf|apply zzg|apply zze));refine zzj ?_ a9.out _;(with_reducible repeat (first|apply zzf|apply zzg|apply zze));refine zzj ?_ a9.out _;(with_reducible repeat (first|apply zzf|apply zzg|apply zze));refine zzj ?_ a9.out _;(with_reducible repeat (first|apply zzf|apply zzg|apply zze));exact a5.out) e7.out (by simp));have c7:=zzm (Kd.R_mono (Kd.R_keep (Qa.apart (show Qa w0 _ g b9 j3 from by repeat (first|(with_reducible first|exact a8.out|apply Qa.alloc|apply Qa.drewN|apply Qa.drew|apply Qa.set_1|refine Qa.far ?_ b3.out _|refine Qa.far ?_ b8.out _)|exact a8.out)) (by (with_reducible repeat (first|apply Kd.R_alloc|apply Kd.R_drewN|apply Kd.R_drew));exact (Kd.R_mono (Kd.R_far (p:=⟨a4,5,none⟩) (Kd.R_far (p:=⟨a4,4,none⟩) (Kd.R_far (p:=⟨a4,3,none⟩) (Kd.R_far (p:=⟨a4,2,none⟩) (Kd.R_far (p:=⟨a4,1,none⟩) (Kd.R_far (p:=⟨a4,0,none⟩) (Kd.R_types e8.out a7.out (by decide)) (fun _ hk=>hk.2) (.bool b1)) (fun _ hk=>hk.2) (.bool b2)) (fun _ hk=>hk.2) (.int .i64 e0)) (fun _ hk=>hk.2) (.int .i64 e1)) (fun _ hk=>hk.2) (.int .i64 e2)) (fun _ hk=>hk.2) (.slice d2 b5.length d3)) (fun _ h_=>h_.1))) (by decide)) hk (fun _ h=>h.2)) (fun _ h=>h.1));have c8:=zzm (Kd.N_mono (Kd.N_keep (Kd.N_mono (ok:=fun k_=>((((w.heap.size≤k_))∧(some k_≠(.slice s8 a2.length s9:Value).ownBlock∧(k_≠a1∧k_≠g)))∧k_≠a4)) (zzN ((Kd.N_mono (Kd.N_far (p:=⟨a4,5,none⟩) (Kd.N_far (p:=⟨a4,4,none⟩) (Kd.N_far (p:=⟨a4,3,none⟩) (Kd.N_far (p:=⟨a4,2,none⟩) (Kd.N_far (p:=⟨a4,1,none⟩) (Kd.N_far (p:=⟨a4,0,none⟩) (Kd.N_mono h1.out (fun k_ hk=>(⟨hk,hk.2⟩:_∧k_≠a4))) (fun _ hk=>hk.2) (.bool b1)) (fun _ hk=>hk.2) (.bool b2)) (fun _ hk=>hk.2) (.int .i64 e0)) (fun _ hk=>hk.2) (.int .i64 e1)) (fun _ hk=>hk.2) (.int .i64 e2)) (fun _ hk=>hk.2) (.slice d2 b5.length d3)) (fun _ h_=>h_.1)))) (fun k_ hk_=>(⟨hk_,hk_.1.2.2.2⟩:_∧k_≠g))) hk (fun _ h=>h.2)) (fun _ h=>h.1));have c9:=zzm (KeepBut.blk hk (g':=a4) (o:=.cells #[.bool b1,.bool b2,.int .i64 e0,.int .i64 e1,.int .i64 e2,.slice d2 b5.length d3] 26 (0,0)) (by (with_reducible repeat (first|apply zzf|apply zzg|apply zze));refine zzi (cs:=#[.bool b1,.bool b2,.int .i64 e0,.int .i64 e1,.int .i64 e2,.slice none 0 0]) ?_ 5 _ rfl;refine zzi (cs:=#[.bool b1,.bool b2,.int .i64 e0,.int .i64 e1,.int .i64 0,.slice none 0 0]) ?_ 4 _ rfl;refine zzi (cs:=#[.bool b1,.bool b2,.int .i64 e0,.int .i64 0,.int .i64 0,.slice none 0 0]) ?_ 3 _ rfl;refine zzi (cs:=#[.bool b1,.bool b2,.int .i64 0,.int .i64 0,.int .i64 0,.slice none 0 0]) ?_ 2 _ rfl;refine zzi (cs:=#[.bool b1,.bool false,.int .i64 0,.int .i64 0,.int .i64 0,.slice none 0 0]) ?_ 1 _ rfl;refine zzi (cs:=#[.bool false,.bool false,.int .i64 0,.int .i64 0,.int .i64 0,.slice none 0 0]) ?_ 0 _ rfl;(with_reducible repeat (first|apply zzf|apply zzg|apply zze));exact a7.out) e6.out (by simp));have d0:=zzm (KeepBut.trans (zzk3 HK) hk (.inl rfl));have d5:=zzm (hb);have d7:=zzm (hi);clear a5 e8 h1 a7 HK HB a8;have a5:=c2;have e8:=c7;have h1:=c8;have a7:=c9;have HK:=d0;have HB:=d5;have a8:=d7;clear c2 c7 c8 c9 d0 d5 d7;(try clear hb);(try clear hb2);(try clear hk);(try clear hi)));go_meet
   case rel=>exact ⟨_,(decide (n4 > 0)),(n5),(by first|rfl|(simp;done)|(simp [*];done)),H',⟨by first|omega|exact Nat.le_refl _⟩,⟨by (with_reducible repeat (first|apply Kd.R_alloc|apply Kd.R_drewN|apply Kd.R_drew));exact Kd.R_mono e8.out (fun _ hk=>hk.1)⟩,⟨by (with_reducible repeat (first|apply Kd.N_alloc|apply Kd.N_drewN|apply Kd.N_drew));exact Kd.N_mono h1.out (fun _ hk=>⟨hk.1.1,⟨hk.1.2.1,⟨hk.1.2.2.1,⟨hk.2,hk.1.2.2.2⟩⟩⟩⟩)⟩,⟨zzE a5.out⟩,⟨zzE a7.out⟩,⟨by repeat (first|(with_reducible first|exact a8.out|apply Qa.alloc|apply Qa.drewN|apply Qa.drew|apply Qa.set_1|refine Qa.far ?_ b3.out _|refine Qa.far ?_ b8.out _)|exact a8.out)⟩,⟨by repeat (first|(with_reducible first|exact HK.out|apply KeepBut.set_|apply keep_drewN|apply keep_drew|apply keep_alloc|refine keep_far ?_ h7.out _|refine keep_far ?_ h8.out _)|exact HK.out)⟩,⟨by repeat (first|(with_reducible first|exact HB.out|apply zza|apply zzb|apply zzc|refine zzd ?_ (Qa.ge a8.out)|refine zzd ?_ e4.out|refine zzd ?_ e5.out)|exact HB.out)⟩⟩
  ·
   rw [if_neg l2] at H;have j9:decide (0 < (a2.length:Int))=false:=decide_eq_false l2;have n7:decide (0 < a2.length)=false:=decide_eq_false (by omega);clear l2
   (first|rw [j9]|(simp only [i64_w,i32_w];rw [j9])|skip);have H':=zzm H;clear H;obtain ⟨S6,S7,eo19⟩:=Kd.R_slice e8.out;subst eo19;go_wp2;go_meet
   case rel=>exact ⟨_,(false),(j3),(by first|rfl|(simp;done)|(simp [*];done)),H',⟨by first|omega|exact Nat.le_refl _⟩,⟨by (with_reducible repeat (first|apply Kd.R_alloc|apply Kd.R_drewN|apply Kd.R_drew));exact Kd.R_mono (Kd.R_far (p:=⟨a4,5,none⟩) (Kd.R_far (p:=⟨a4,4,none⟩) (Kd.R_far (p:=⟨a4,3,none⟩) (Kd.R_far (p:=⟨a4,2,none⟩) (Kd.R_far (p:=⟨a4,1,none⟩) (Kd.R_far (p:=⟨a4,0,none⟩) (Kd.R_types e8.out a7.out (by decide)) (fun _ hk=>hk.2) (.bool b1)) (fun _ hk=>hk.2) (.bool b2)) (fun _ hk=>hk.2) (.int .i64 e0)) (fun _ hk=>hk.2) (.int .i64 e1)) (fun _ hk=>hk.2) (.int .i64 e2)) (fun _ hk=>hk.2) (.slice d2 b5.length d3)) (fun _ hk=>hk.1.1)⟩,⟨by (with_reducible repeat (first|apply Kd.N_alloc|apply Kd.N_drewN|apply Kd.N_drew));exact Kd.N_mono (Kd.N_far (p:=⟨a4,5,none⟩) (Kd.N_far (p:=⟨a4,4,none⟩) (Kd.N_far (p:=⟨a4,3,none⟩) (Kd.N_far (p:=⟨a4,2,none⟩) (Kd.N_far (p:=⟨a4,1,none⟩) (Kd.N_far (p:=⟨a4,0,none⟩) (Kd.N_mono h1.out (fun k_ hk=>(⟨hk,hk.2⟩:_∧k_≠a4))) (fun _ hk=>hk.2) (.bool b1)) (fun _ hk=>hk.2) (.bool b2)) (fun _ hk=>hk.2) (.int .i64 e0)) (fun _ hk=>hk.2) (.int .i64 e1)) (fun _ hk=>hk.2) (.int .i64 e2)) (fun _ hk=>hk.2) (.slice d2 b5.length d3)) (fun _ hk=>⟨hk.1.1.1,⟨hk.1.1.2.1,⟨hk.1.1.2.2.1,⟨hk.1.2,hk.1.1.2.2.2⟩⟩⟩⟩)⟩,⟨by (with_reducible repeat (first|apply zzf|apply zzg|apply zze));refine zzj ?_ a9.out _;(with_reducible repeat (first|apply zzf|apply zzg|apply zze));refine zzj ?_ a9.out _;(with_reducible repeat (first|apply zzf|apply zzg|apply zze));refine zzj ?_ a9.out _;(with_reducible repeat (first|apply zzf|apply zzg|apply zze));refine zzj ?_ a9.out _;(with_reducible repeat (first|apply zzf|apply zzg|apply zze));refine zzj ?_ a9.out _;(with_reducible repeat (first|apply zzf|apply zzg|apply zze));refine zzj ?_ a9.out _;(with_reducible repeat (first|apply zzf|apply zzg|apply zze));exact a5.out⟩,⟨by (with_reducible repeat (first|apply zzf|apply zzg|apply zze));refine zzi (cs:=#[.bool b1,.bool b2,.int .i64 e0,.int .i64 e1,.int .i64 e2,.slice none 0 0]) ?_ 5 _ rfl;refine zzi (cs:=#[.bool b1,.bool b2,.int .i64 e0,.int .i64 e1,.int .i64 0,.slice none 0 0]) ?_ 4 _ rfl;refine zzi (cs:=#[.bool b1,.bool b2,.int .i64 e0,.int .i64 0,.int .i64 0,.slice none 0 0]) ?_ 3 _ rfl;refine zzi (cs:=#[.bool b1,.bool b2,.int .i64 0,.int .i64 0,.int .i64 0,.slice none 0 0]) ?_ 2 _ rfl;refine zzi (cs:=#[.bool b1,.bool false,.int .i64 0,.int .i64 0,.int .i64 0,.slice none 0 0]) ?_ 1 _ rfl;refine zzi (cs:=#[.bool false,.bool false,.int .i64 0,.int .i64 0,.int .i64 0,.slice none 0 0]) ?_ 0 _ rfl;(with_reducible repeat (first|apply zzf|apply zzg|apply zze));exact a7.out⟩,⟨by repeat (first|(with_reducible first|exact a8.out|apply Qa.alloc|apply Qa.drewN|apply Qa.drew|apply Qa.set_1|refine Qa.far ?_ b3.out _|refine Qa.far ?_ b8.out _)|exact a8.out)⟩,⟨by repeat (first|(with_reducible first|exact HK.out|apply KeepBut.set_|apply keep_drewN|apply keep_drew|apply keep_alloc|refine keep_far ?_ h7.out _|refine keep_far ?_ h8.out _)|exact HK.out)⟩,⟨by repeat (first|(with_reducible first|exact HB.out|apply zza|apply zzb|apply zzc|refine zzd ?_ (Qa.ge a8.out)|refine zzd ?_ e4.out|refine zzd ?_ e5.out)|exact HB.out)⟩⟩
 case rest=>
  clear p5;try clear c1
  try clear p2
  try clear c3
  try clear c4
  try clear c5
  try clear V4
  try clear V5
  try clear l2
  try clear j9
  try clear n7
  try clear o1
  try clear o2
  try clear o3
  try clear o4
  try clear o5
  try clear o6
  try clear o7
  try clear o8
  try clear o9
  try clear p0
  try clear p1
  try clear p3
  obtain ⟨kq,l1,g2,rfl,HA,HJ4,b6,a6,a5,a7,a8,HK,HB⟩:=hcut;cases kq with
  | zero=>exact absurd HA.out (by simp [Qf.j0])
  | succ h0=>
   have H:=HA.out;clear HA;simp only [Qf.j0] at H;by_cases n8:l1=true
   ·
    subst n8;replace H:=zzIt H;replace H:=zzH H;obtain ⟨⟨a3,g4⟩,p7,H⟩:=H;replace H:(if 0≤a3 then (if a3 < (a2.length:Int) then ((Qb.f h0 b9 g4 6).bind fun k3=>(if k3.1=0 then ((Qb.f h0 b9 k3.2 5).bind fun k4=>(some (a2,b1,b2,(Qd a2 a3).f0,(Qd a2 a3).f1,mx (wrap64 ((wrap64 (((Qd a2 a3).f2)+k4.1)) - 2)) 0,b5,k4.2))) else (if k3.1=1 then ((Qb.f h0 b9 k3.2 3).bind fun k5=>((Qb.f h0 b9 k5.2 2).bind fun g8=>(some (a2,b1,b2,(Qd a2 a3).f0,mx (wrap64 ((wrap64 (((Qd a2 a3).f1)+k5.1)) - 1)) 0,g8.1,b5,g8.2)))) else (some (a2,b1,b2,(Qd a2 a3).f0,(Qd a2 a3).f1,(Qd a2 a3).f2,b5,k3.2))))) else (none)) else (none))=some (r1,r2,r3,r4,r5,r6,r7,r8):=H;have m9:=zzm p7;clear p7;by_cases n9 : 0≤a3
    ·
     rw [if_pos n9] at H;have M7:decide (0≤a3)=true:=decide_eq_true n9;clear n9;by_cases o0:a3 < (a2.length:Int)
     ·
      rw [if_pos o0] at H;have M8:decide (a3 < (a2.length:Int))=true:=decide_eq_true o0;clear o0;replace H:=zzH H;obtain ⟨⟨k1,h9⟩,p8,H⟩:=H;replace H:(if k1=0 then ((Qb.f h0 b9 h9 5).bind fun k4=>(some (a2,b1,b2,(Qd a2 a3).f0,(Qd a2 a3).f1,mx (wrap64 ((wrap64 (((Qd a2 a3).f2)+k4.1)) - 2)) 0,b5,k4.2))) else (if k1=1 then ((Qb.f h0 b9 h9 3).bind fun k5=>((Qb.f h0 b9 k5.2 2).bind fun g8=>(some (a2,b1,b2,(Qd a2 a3).f0,mx (wrap64 ((wrap64 (((Qd a2 a3).f1)+k5.1)) - 1)) 0,g8.1,b5,g8.2)))) else (some (a2,b1,b2,(Qd a2 a3).f0,(Qd a2 a3).f1,(Qd a2 a3).f2,b5,h9))))=some (r1,r2,r3,r4,r5,r6,r7,r8):=H;have n0:=zzm p8;clear p8;by_cases n1:k1=0
      ·
       rw [if_pos n1] at H;obtain ⟨q4,q5⟩:=zzQ n1;clear n1;replace H:=zzH H;obtain ⟨⟨l3,m8⟩,p9,H⟩:=H;replace H:(some (a2,b1,b2,(Qd a2 a3).f0,(Qd a2 a3).f1,mx (wrap64 ((wrap64 (((Qd a2 a3).f2)+l3)) - 2)) 0,b5,m8))=some (r1,r2,r3,r4,r5,r6,r7,r8):=H;have s6:=zzm p9;clear p9;obtain ⟨g0,hji27⟩:∃ j_:Int,(mx (wrap64 ((wrap64 (((Qd a2 a3).f2)+l3)) - 2)) 0)=j_:=⟨_,rfl⟩;replace H:(some (a2,b1,b2,(Qd a2 a3).f0,(Qd a2 a3).f1,g0,b5,m8))=some (r1,r2,r3,r4,r5,r6,r7,r8):=by first|(rw [hji27] at H;exact H)|(simp only [hji27] at H ⊢;exact H)
       (try rw [hji27] at m9)
       (try rw [hji27] at n0)
       (try rw [hji27] at s6);have hji27_:(if (wrap64 ((wrap64 (((Qd a2 a3).f2)+l3)) - 2)) < 0 then 0 else (wrap64 ((wrap64 (((Qd a2 a3).f2)+l3)) - 2)))=g0:=hji27;simp only [Option.some.injEq,Prod.mk.injEq] at H;obtain ⟨rfl,rfl,rfl,rfl,rfl,rfl,rfl,rfl⟩:=H;obtain ⟨t0,l4,eo28⟩:=Kd.R_slice b6.out;subst eo28;try go_wp2_with (first|((with_reducible refine gate_callee (f:=50) rfl ?_);refine goesL_ (some 25) rfl rfl Try.func50 (by kernel_rfl) rfl #[.pointer (some ⟨g,0,none⟩),.int .i64 (a2.length:Int)] rfl zzM2 ?_;(with_reducible refine (Qb.calls h0 g b9 g2 (a2.length:Int) a3 g4 w0 _ ?side1 ?side2 m9.out).mono ?_);(case side1=>repeat (first|(with_reducible first|exact a8.out|apply Qa.alloc|apply Qa.drewN|apply Qa.drew|apply Qa.set_1|refine Qa.far ?_ b3.out _|refine Qa.far ?_ b8.out _)|exact a8.out));(case side2=>repeat (first|(with_reducible first|exact HB.out|apply zza|apply zzb|apply zzc|refine zzd ?_ (Qa.ge a8.out)|refine zzd ?_ e4.out|refine zzd ?_ e5.out)|exact HB.out));rintro e V6 ⟨rfl,hi,hb,hk⟩;refine ⟨_,rfl,?_⟩;have c2:=zzm (Kd.R_mono (Kd.R_keep (Qa.apart (show Qa w0 _ g b9 g2 from by repeat (first|(with_reducible first|exact a8.out|apply Qa.alloc|apply Qa.drewN|apply Qa.drew|apply Qa.set_1|refine Qa.far ?_ b3.out _|refine Qa.far ?_ b8.out _)|exact a8.out)) (by (with_reducible repeat (first|apply Kd.R_alloc|apply Kd.R_drewN|apply Kd.R_drew));exact b6.out) (by decide)) hk (fun _ h=>h.2)) (fun _ h=>h.1));have c7:=zzm (Kd.N_mono (Kd.N_keep (Kd.N_mono (ok:=fun k_=>(((w.heap.size≤k_))∧(some k_≠(.slice t0 a2.length l4:Value).ownBlock∧(k_≠a1∧(k_≠a4∧k_≠g))))) (zzN a6.out) (fun k_ hk_=>(⟨hk_,hk_.2.2.2.2⟩:_∧k_≠g))) hk (fun _ h=>h.2)) (fun _ h=>h.1));have c8:=zzm (KeepBut.blk hk (g':=a1) (o:=.cells #[.bool false,.bool false,.int .i64 0,.int .i64 0,.int .i64 0,.slice none 0 0] 26 (0,0)) (zzE a5.out) e7.out (by simp));have c9:=zzm (KeepBut.blk hk (g':=a4) (o:=.cells #[.bool b1,.bool b2,.int .i64 e0,.int .i64 e1,.int .i64 e2,.slice d2 b5.length d3] 26 (0,0)) (zzE a7.out) e6.out (by simp));have d0:=zzm (KeepBut.trans (zzk3 HK) hk (.inl rfl));have d5:=zzm (hb);have d7:=zzm (hi);clear b6 a6 a5 a7 HK HB a8;have b6:=c2;have a6:=c7;have a5:=c8;have a7:=c9;have HK:=d0;have HB:=d5;have a8:=d7;clear c2 c7 c8 c9 d0 d5 d7;(try clear hb);(try clear hb2);(try clear hk);(try clear hi);have h5 : 0≤(a3:Int):=zzt;have h6:a3 < (a2.length:Int):=zzt;obtain ⟨g6,l5,l8,l9,m0⟩:=Rf (Kd.R_reads' b6.out).2.2 a3 h5 h6;cases l5;replace h5:=eq_true h5;replace h6:=eq_true h6)|((with_reducible refine gate_dst (N:=6) rfl ?_);refine box_event ?hg (N:=6) ?hd (cs:=#[.int .i64 0,.int .i64 0,.int .i64 0]) (t:=67) ?hr ?_;(case hd=>rfl);(case hg=>rfl);(case hr=>first|(go_simp;done)|(go_simp;rfl));intro b0 hg V7 hbox hb;have c2:=zzm (Kd.R_below (Kd.R_elderB (by (with_reducible repeat (first|apply Kd.R_alloc|apply Kd.R_drewN|apply Kd.R_drew));exact b6.out) b0 (Nat.le_of_eq hg.symm)) hb);have c7:=zzm (Kd.N_below (Kd.N_elderB (zzN a6.out) b0 (Nat.le_of_eq hg.symm)) hb);have c8:=zzm (zzh (g:=a1) (o:=.cells #[.bool false,.bool false,.int .i64 0,.int .i64 0,.int .i64 0,.slice none 0 0] 26 (0,0)) (zzE a5.out) hb);have c9:=zzm (zzh (g:=a4) (o:=.cells #[.bool b1,.bool b2,.int .i64 e0,.int .i64 e1,.int .i64 e2,.slice d2 b5.length d3] 26 (0,0)) (zzE a7.out) hb);have d0:=zzm (Qa.below (by repeat (first|(with_reducible first|exact a8.out|apply Qa.alloc|apply Qa.drewN|apply Qa.drew|apply Qa.set_1|refine Qa.far ?_ b3.out _|refine Qa.far ?_ b8.out _)|exact a8.out)) hb);have d5:=zzm (KeepBut.trans (zzk3 HK) (KeepBut.of_below hb g none) (.inl rfl));have d7:=zzm (zzp (by repeat (first|(with_reducible first|exact HB.out|apply zza|apply zzb|apply zzc|refine zzd ?_ (Qa.ge a8.out)|refine zzd ?_ e4.out|refine zzd ?_ e5.out)|exact HB.out)) hb);have d8:=zzm (hbox);have j4:=zzm ((by rw [hg];exact (keep_size (w:=w) (g:=g) (row:=none) (zzk3 HK)):w.heap.size≤b0));have j5:=zzm ((Nat.le_trans HW0.out (by rw [hg];exact (keep_size (w:=w) (g:=g) (row:=none) (zzk3 HK)):w.heap.size≤b0):w0.heap.size≤b0));have h2:=zzm ((by rw [hg];exact Nat.ne_of_lt (blk_lt (g:=a1) (o:=.cells #[.bool false,.bool false,.int .i64 0,.int .i64 0,.int .i64 0,.slice none 0 0] 26 (0,0)) (zzE a5.out)):a1≠b0));have h3:=zzm ((by rw [hg];exact Nat.ne_of_gt (blk_lt (g:=a1) (o:=.cells #[.bool false,.bool false,.int .i64 0,.int .i64 0,.int .i64 0,.slice none 0 0] 26 (0,0)) (zzE a5.out)):b0≠a1));have h4:=zzm ((by rw [hg];exact Nat.ne_of_lt (blk_lt (g:=a4) (o:=.cells #[.bool b1,.bool b2,.int .i64 e0,.int .i64 e1,.int .i64 e2,.slice d2 b5.length d3] 26 (0,0)) (zzE a7.out)):a4≠b0));have j6:=zzm ((by rw [hg];exact Nat.ne_of_gt (blk_lt (g:=a4) (o:=.cells #[.bool b1,.bool b2,.int .i64 e0,.int .i64 e1,.int .i64 e2,.slice d2 b5.length d3] 26 (0,0)) (zzE a7.out)):b0≠a4));have j7:=zzm ((by rw [hg];exact Nat.ne_of_lt (Qa.lt (show Qa w0 _ g b9 g4 from by repeat (first|(with_reducible first|exact a8.out|apply Qa.alloc|apply Qa.drewN|apply Qa.drew|apply Qa.set_1|refine Qa.far ?_ b3.out _|refine Qa.far ?_ b8.out _)|exact a8.out))):g≠b0));have j8:=zzm ((by rw [hg];exact Nat.ne_of_gt (Qa.lt (show Qa w0 _ g b9 g4 from by repeat (first|(with_reducible first|exact a8.out|apply Qa.alloc|apply Qa.drewN|apply Qa.drew|apply Qa.set_1|refine Qa.far ?_ b3.out _|refine Qa.far ?_ b8.out _)|exact a8.out))):b0≠g));clear b6 a6 a5 a7 a8 HK HB;have b6:=c2;have a6:=c7;have a5:=c8;have a7:=c9;have a8:=d0;have HK:=d5;have HB:=d7;have b4:=d8;have j2:=j4;have g3:=j5;have b7:=h2;have d6:=h3;have e3:=h4;have d1:=j6;have d9:=j7;have e9:=j8;clear c2 c7 c8 c9 d0 d5 d7 d8 j4 j5 h2 h3 h4 j6 j7 j8 hb hbox hg;have M9:=d6.out;have N0:=b7.out;have N1:=d1.out;have N2:=e3.out;have N3:=e9.out;have N4:=d9.out;obtain ⟨t9,v0,v1,v2,v3,v4⟩:=zzc3 b4.out;have N5:=a0.out;have N6:=a9.out;have N7:=e6.out;have N8:=b8.out;obtain ⟨v5,v6,v7,v8,v9,w2,w3,w4,w5,x0,x1,x2⟩:=zzc6 a7.out)|((with_reducible refine gate_callee (f:=50) rfl ?_);refine goesL_ (some 38) rfl rfl Try.func50 (by kernel_rfl) rfl #[.pointer (some ⟨g,0,none⟩),.int .i64 6] rfl zzM2 ?_;(with_reducible refine (Qb.calls h0 g b9 g4 6 k1 h9 w0 _ ?side1 ?side2 n0.out).mono ?_);(case side1=>repeat (first|(with_reducible first|exact a8.out|apply Qa.alloc|apply Qa.drewN|apply Qa.drew|apply Qa.set_1|refine Qa.far ?_ b3.out _|refine Qa.far ?_ b8.out _|refine Qa.far ?_ d9.out _)|exact a8.out));(case side2=>repeat (first|(with_reducible first|exact HB.out|apply zza|apply zzb|apply zzc|refine zzd ?_ (Qa.ge a8.out)|refine zzd ?_ e4.out|refine zzd ?_ e5.out|refine zzd ?_ g3.out)|exact HB.out));rintro e L3 ⟨rfl,hi,hb,hk⟩;refine ⟨_,rfl,?_⟩;have c2:=zzm (Kd.R_mono (Kd.R_keep (Qa.apart (show Qa w0 _ g b9 g4 from by repeat (first|(with_reducible first|exact a8.out|apply Qa.alloc|apply Qa.drewN|apply Qa.drew|apply Qa.set_1|refine Qa.far ?_ b3.out _|refine Qa.far ?_ b8.out _|refine Qa.far ?_ d9.out _)|exact a8.out)) (by (with_reducible repeat (first|apply Kd.R_alloc|apply Kd.R_drewN|apply Kd.R_drew));exact (Kd.R_mono (Kd.R_mono (Kd.R_far (p:=⟨a4,4,none⟩) (Kd.R_far (p:=⟨a4,3,none⟩) (Kd.R_far (p:=⟨a4,2,none⟩) (Kd.R_far (p:=⟨b0,2,none⟩) (Kd.R_far (p:=⟨b0,1,none⟩) (Kd.R_far (p:=⟨b0,0,none⟩) (Kd.R_types (Kd.R_mono b6.out (fun k_ hk=>(⟨hk,hk.2⟩:_∧k_≠b0))) a7.out (by decide)) (fun _ hk=>hk.1.2) (.int .i64 ((Qd a2 a3).f0))) (fun _ hk=>hk.1.2) (.int .i64 ((Qd a2 a3).f1))) (fun _ hk=>hk.1.2) (.int .i64 ((Qd a2 a3).f2))) (fun _ hk=>hk.2) (.int .i64 ((Qd a2 a3).f0))) (fun _ hk=>hk.2) (.int .i64 ((Qd a2 a3).f1))) (fun _ hk=>hk.2) (.int .i64 ((Qd a2 a3).f2))) (fun _ h_=>h_.1)) (fun _ h_=>h_.1))) (by decide)) hk (fun _ h=>h.2)) (fun _ h=>h.1));have c7:=zzm (Kd.N_mono (Kd.N_keep (Kd.N_mono (ok:=fun k_=>((((w.heap.size≤k_))∧(some k_≠(.slice (some g6) a2.length l4:Value).ownBlock∧(k_≠a1∧(k_≠a4∧k_≠g))))∧k_≠b0)) (zzN ((Kd.N_mono (Kd.N_mono (Kd.N_far (p:=⟨a4,4,none⟩) (Kd.N_far (p:=⟨a4,3,none⟩) (Kd.N_far (p:=⟨a4,2,none⟩) (Kd.N_far (p:=⟨b0,2,none⟩) (Kd.N_far (p:=⟨b0,1,none⟩) (Kd.N_far (p:=⟨b0,0,none⟩) (Kd.N_mono (Kd.N_mono a6.out (fun k_ hk=>(⟨hk,hk.2⟩:_∧k_≠b0))) (fun k_ hk=>(⟨hk,hk.1.1.2.2.2.1⟩:_∧k_≠a4))) (fun _ hk=>hk.1.2) (.int .i64 ((Qd a2 a3).f0))) (fun _ hk=>hk.1.2) (.int .i64 ((Qd a2 a3).f1))) (fun _ hk=>hk.1.2) (.int .i64 ((Qd a2 a3).f2))) (fun _ hk=>hk.2) (.int .i64 ((Qd a2 a3).f0))) (fun _ hk=>hk.2) (.int .i64 ((Qd a2 a3).f1))) (fun _ hk=>hk.2) (.int .i64 ((Qd a2 a3).f2))) (fun _ h_=>h_.1)) (fun _ h_=>h_.1)))) (fun k_ hk_=>(⟨hk_,hk_.1.2.2.2.2⟩:_∧k_≠g))) hk (fun _ h=>h.2)) (fun _ h=>h.1));have c8:=zzm (KeepBut.blk hk (g':=a1) (o:=.cells #[.bool false,.bool false,.int .i64 0,.int .i64 0,.int .i64 0,.slice none 0 0] 26 (0,0)) (by (with_reducible repeat (first|apply zzf|apply zzg|apply zze));refine zzj ?_ a9.out _;(with_reducible repeat (first|apply zzf|apply zzg|apply zze));refine zzj ?_ a9.out _;(with_reducible repeat (first|apply zzf|apply zzg|apply zze));refine zzj ?_ a9.out _;(with_reducible repeat (first|apply zzf|apply zzg|apply zze));refine zzj ?_ b7.out _;(with_reducible repeat (first|apply zzf|apply zzg|apply zze));refine zzj ?_ b7.out _;(with_reducible repeat (first|apply zzf|apply zzg|apply zze));refine zzj ?_ b7.out _;(with_reducible repeat (first|apply zzf|apply zzg|apply zze));exact a5.out) e7.out (by simp));have c9:=zzm (KeepBut.blk hk (g':=a4) (o:=.cells #[.bool b1,.bool b2,.int .i64 ((Qd a2 a3).f0),.int .i64 ((Qd a2 a3).f1),.int .i64 ((Qd a2 a3).f2),.slice d2 b5.length d3] 26 (0,0)) (by (with_reducible repeat (first|apply zzf|apply zzg|apply zze));refine zzi (cs:=#[.bool b1,.bool b2,.int .i64 ((Qd a2 a3).f0),.int .i64 ((Qd a2 a3).f1),.int .i64 e2,.slice d2 b5.length d3]) ?_ 4 _ rfl;refine zzi (cs:=#[.bool b1,.bool b2,.int .i64 ((Qd a2 a3).f0),.int .i64 e1,.int .i64 e2,.slice d2 b5.length d3]) ?_ 3 _ rfl;refine zzi (cs:=#[.bool b1,.bool b2,.int .i64 e0,.int .i64 e1,.int .i64 e2,.slice d2 b5.length d3]) ?_ 2 _ rfl;(with_reducible repeat (first|apply zzf|apply zzg|apply zze));refine zzj ?_ e3.out _;(with_reducible repeat (first|apply zzf|apply zzg|apply zze));refine zzj ?_ e3.out _;(with_reducible repeat (first|apply zzf|apply zzg|apply zze));refine zzj ?_ e3.out _;(with_reducible repeat (first|apply zzf|apply zzg|apply zze));exact a7.out) e6.out (by simp));have d0:=zzm (KeepBut.blk hk (g':=b0) (o:=.cells #[.int .i64 ((Qd a2 a3).f0),.int .i64 ((Qd a2 a3).f1),.int .i64 ((Qd a2 a3).f2)] 67 (0,0)) (by (with_reducible repeat (first|apply zzf|apply zzg|apply zze));refine zzj ?_ d1.out _;(with_reducible repeat (first|apply zzf|apply zzg|apply zze));refine zzj ?_ d1.out _;(with_reducible repeat (first|apply zzf|apply zzg|apply zze));refine zzj ?_ d1.out _;(with_reducible repeat (first|apply zzf|apply zzg|apply zze));refine zzi (cs:=#[.int .i64 ((Qd a2 a3).f0),.int .i64 ((Qd a2 a3).f1),.int .i64 0]) ?_ 2 _ rfl;refine zzi (cs:=#[.int .i64 ((Qd a2 a3).f0),.int .i64 0,.int .i64 0]) ?_ 1 _ rfl;refine zzi (cs:=#[.int .i64 0,.int .i64 0,.int .i64 0]) ?_ 0 _ rfl;(with_reducible repeat (first|apply zzf|apply zzg|apply zze));exact b4.out) e9.out (by simp));have d5:=zzm (KeepBut.trans (zzk3 HK) hk (.inl rfl));have d7:=zzm (hb);have d8:=zzm (hi);clear b6 a6 a5 a7 b4 HK HB a8;have b6:=c2;have a6:=c7;have a5:=c8;have a7:=c9;have b4:=d0;have HK:=d5;have HB:=d7;have a8:=d8;clear c2 c7 c8 c9 d0 d5 d7 d8;(try clear hb);(try clear hb2);(try clear hk);(try clear hi)))
       have c2:=zzm (Kd.R_drew b6.out);have c7:=zzm (Kd.N_drew a6.out);have c8:=zzm (zzg a5.out);have c9:=zzm (zzg a7.out);have d0:=zzm (zzg b4.out);have d5:=zzm (Qa.drew a8.out);have d7:=zzm (keep_drew HK.out);have d8:=zzm (zzc HB.out);clear b6 a6 a5 a7 b4 a8 HK HB;have b6:=c2;have a6:=c7;have a5:=c8;have a7:=c9;have b4:=d0;have a8:=d5;have HK:=d7;have HB:=d8;clear c2 c7 c8 c9 d0 d5 d7 d8;refine start_ (n:=9) (S:=fun w'=>w'.cell? ⟨b0,0,none⟩=some (.int .i64 ((Qd a2 a3).f0))∧w'.cell? ⟨b0,1,none⟩=some (.int .i64 ((Qd a2 a3).f1))∧w'.cell? ⟨b0,2,none⟩=some (.int .i64 ((Qd a2 a3).f2))) (ds:=[]) (zzB 9 0) (by kernel_rfl) rfl rfl ⟨(zzk b4.out 0).trans rfl,(zzk b4.out 1).trans rfl,(zzk b4.out 2).trans rfl⟩ (fun c0=>?_);refine with_tabW Qf.tab10 Qf.bits10 (fun g5 q0=>?_);generalize L3.drew=V8 at b6 a6 a5 a7 b4 a8 HK HB c0 ⊢;refine zzP 0 41 9 1 g5 ?_
       refine zzP 2 43 9 5 g5 ?_
       refine zzT 1 42 9 7 g5 q0 c0 ?_
       refine one_ (i:=3) (N:=some 44) (zzB 9 15) rfl rfl (one_of g5.out (by kernel_rfl)) (by decide) (fun K hK=>?_);refine goes_ Try.func50 (by kernel_rfl) rfl #[.pointer (some ⟨g,0,none⟩),.int .i64 5] (by rfl) rfl rfl zzM2 ?_;with_reducible refine (Qb.calls h0 g b9 h9 5 l3 m8 w0 _ ?side1 ?side2 s6.out).mono ?_
       (case side1=>repeat (first|(with_reducible first|exact a8.out|apply Qa.alloc|apply Qa.drewN|apply Qa.drew|apply Qa.set_1|refine Qa.far ?_ b3.out _|refine Qa.far ?_ b8.out _|refine Qa.far ?_ d9.out _)|exact a8.out))
       (case side2=>repeat (first|(with_reducible first|exact HB.out|apply zza|apply zzb|apply zzc|refine zzd ?_ (Qa.ge a8.out)|refine zzd ?_ e4.out|refine zzd ?_ e5.out|refine zzd ?_ g3.out)|exact HB.out));rintro e k0 ⟨rfl,hi,hb,hk⟩;refine ⟨_,rfl,?_⟩;have c2:=zzm (Kd.R_mono (Kd.R_keep (Qa.apart (show Qa w0 _ g b9 h9 from by repeat (first|(with_reducible first|exact a8.out|apply Qa.alloc|apply Qa.drewN|apply Qa.drew|apply Qa.set_1|refine Qa.far ?_ b3.out _|refine Qa.far ?_ b8.out _|refine Qa.far ?_ d9.out _)|exact a8.out)) (by (with_reducible repeat (first|apply Kd.R_alloc|apply Kd.R_drewN|apply Kd.R_drew));exact b6.out) (by decide)) hk (fun _ h=>h.2)) (fun _ h=>h.1));have c7:=zzm (Kd.N_mono (Kd.N_keep (Kd.N_mono (ok:=fun k_=>((((w.heap.size≤k_))∧(some k_≠(.slice (some g6) a2.length l4:Value).ownBlock∧(k_≠a1∧(k_≠a4∧k_≠g))))∧k_≠b0)) (zzN a6.out) (fun k_ hk_=>(⟨hk_,hk_.1.2.2.2.2⟩:_∧k_≠g))) hk (fun _ h=>h.2)) (fun _ h=>h.1));have c8:=zzm (KeepBut.blk hk (g':=a1) (o:=.cells #[.bool false,.bool false,.int .i64 0,.int .i64 0,.int .i64 0,.slice none 0 0] 26 (0,0)) (zzE a5.out) e7.out (by simp));have c9:=zzm (KeepBut.blk hk (g':=a4) (o:=.cells #[.bool b1,.bool b2,.int .i64 ((Qd a2 a3).f0),.int .i64 ((Qd a2 a3).f1),.int .i64 ((Qd a2 a3).f2),.slice d2 b5.length d3] 26 (0,0)) (zzE a7.out) e6.out (by simp));have d0:=zzm (KeepBut.blk hk (g':=b0) (o:=.cells #[.int .i64 ((Qd a2 a3).f0),.int .i64 ((Qd a2 a3).f1),.int .i64 ((Qd a2 a3).f2)] 67 (0,0)) (zzE b4.out) e9.out (by simp));have d5:=zzm (KeepBut.trans (zzk3 HK) hk (.inl rfl));have d7:=zzm (hb);have d8:=zzm (hi);clear b6 a6 a5 a7 b4 HK HB a8;have b6:=c2;have a6:=c7;have a5:=c8;have a7:=c9;have b4:=d0;have HK:=d5;have HB:=d7;have a8:=d8;clear c2 c7 c8 c9 d0 d5 d7 d8
       (try clear hb)
       (try clear hb2)
       (try clear hk)
       (try clear hi);refine hK.out _ _ ⟨(zzk b4.out 0).trans rfl,(zzk b4.out 1).trans rfl,(zzk b4.out 2).trans rfl⟩ (fun c0=>?_);clear hK K;refine zzO 44 ?_
       refine zzP 4 45 9 31 g5 ?_
       refine zzP 5 46 9 63 g5 ?_
       refine zzP 6 47 9 127 g5 ?_
       refine zzP 7 48 9 255 g5 ?_
       refine one_ (i:=8) (N:=none) (zzB 9 511) rfl rfl (one_of g5.out (by kernel_rfl)) (by decide) (fun K hK=>?_);have S8:k0.cell? ⟨a4,4,none⟩=some (.int .i64 ((Qd a2 a3).f2)):=(zzk a7.out 4).trans rfl;have N9:=zzl a7.out 4;have x3:=a9.out;have x4:=d1.out;have x5:=a0.out;have x6:=e3.out;refine skip_ (w1:=?_) (by rfl) rfl ?_ ?_;rotate_left
       ·
        go_simp;rfl
       refine hK.out _ _ ⟨((cell_far (p:=⟨a4,_,none⟩) d1.out _).trans (c0.1)),((cell_far (p:=⟨a4,_,none⟩) d1.out _).trans (c0.2.1)),((cell_far (p:=⟨a4,_,none⟩) d1.out _).trans (c0.2.2))⟩ (fun c0=>?_);clear hK K;refine done_ (done_of g5.out (by kernel_rfl)) ?_;try go_wp2
       have c2:Aside0 (Kd.R k67 67 (k0.setCell ⟨a4,4,none⟩ (.int .i64 g0)) w.heap.size (fun k_=>(w.heap.size≤k_)∧k_≠b0) (.slice (some g6) a2.length l4) a2):=⟨by (with_reducible repeat (first|apply Kd.R_alloc|apply Kd.R_drewN|apply Kd.R_drew));exact Kd.R_mono (Kd.R_far (p:=⟨a4,4,none⟩) (Kd.R_types b6.out a7.out (by decide)) (fun _ hk=>hk.2) (.int .i64 g0)) (fun _ hk=>⟨hk.1.1,hk.1.2⟩)⟩;have c7:Aside0 (Kd.N k75 75 (k0.setCell ⟨a4,4,none⟩ (.int .i64 g0)) w.heap.size (fun k_=>(w.heap.size≤k_)∧some k_≠(.slice (some g6) a2.length l4:Value).ownBlock∧k_≠a1∧k_≠a4∧k_≠g∧k_≠b0) (.slice d2 b5.length d3) b5):=⟨by (with_reducible repeat (first|apply Kd.N_alloc|apply Kd.N_drewN|apply Kd.N_drew));exact Kd.N_mono (Kd.N_far (p:=⟨a4,4,none⟩) (Kd.N_mono a6.out (fun k_ hk=>(⟨hk,hk.1.2.2.2.1⟩:_∧k_≠a4))) (fun _ hk=>hk.2) (.int .i64 g0)) (fun _ hk=>⟨hk.1.1.1,⟨hk.1.1.2.1,⟨hk.1.1.2.2.1,⟨hk.1.1.2.2.2.1,⟨hk.1.1.2.2.2.2,hk.1.2⟩⟩⟩⟩⟩)⟩;have c8:Aside0 ((k0.setCell ⟨a4,4,none⟩ (.int .i64 g0)).heap[a1]? = some (.cells #[.bool false,.bool false,.int .i64 0,.int .i64 0,.int .i64 0,.slice none 0 0] 26 (0,0))):=⟨by (with_reducible repeat (first|apply zzf|apply zzg|apply zze));refine zzj ?_ a9.out _;(with_reducible repeat (first|apply zzf|apply zzg|apply zze));exact a5.out⟩;have c9:Aside0 ((k0.setCell ⟨a4,4,none⟩ (.int .i64 g0)).heap[a4]? = some (.cells #[.bool b1,.bool b2,.int .i64 ((Qd a2 a3).f0),.int .i64 ((Qd a2 a3).f1),.int .i64 g0,.slice d2 b5.length d3] 26 (0,0))):=⟨by (with_reducible repeat (first|apply zzf|apply zzg|apply zze));refine zzi (cs:=#[.bool b1,.bool b2,.int .i64 ((Qd a2 a3).f0),.int .i64 ((Qd a2 a3).f1),.int .i64 ((Qd a2 a3).f2),.slice d2 b5.length d3]) ?_ 4 _ rfl;(with_reducible repeat (first|apply zzf|apply zzg|apply zze));exact a7.out⟩;have d0:Aside0 ((k0.setCell ⟨a4,4,none⟩ (.int .i64 g0)).heap[b0]? = some (.cells #[.int .i64 ((Qd a2 a3).f0),.int .i64 ((Qd a2 a3).f1),.int .i64 ((Qd a2 a3).f2)] 67 (0,0))):=⟨by (with_reducible repeat (first|apply zzf|apply zzg|apply zze));refine zzj ?_ d1.out _;(with_reducible repeat (first|apply zzf|apply zzg|apply zze));exact b4.out⟩;have d5:Aside0 (Qa w0 (k0.setCell ⟨a4,4,none⟩ (.int .i64 g0)) g b9 m8):=⟨by repeat (first|(with_reducible first|exact a8.out|apply Qa.alloc|apply Qa.drewN|apply Qa.drew|apply Qa.set_1|refine Qa.far ?_ b3.out _|refine Qa.far ?_ b8.out _|refine Qa.far ?_ d9.out _)|exact a8.out)⟩;have d7:Aside0 (KeepBut w (k0.setCell ⟨a4,4,none⟩ (.int .i64 g0)) g none):=⟨by repeat (first|(with_reducible first|exact HK.out|apply KeepBut.set_|apply keep_drewN|apply keep_drew|apply keep_alloc|refine keep_far ?_ h7.out _|refine keep_far ?_ h8.out _|refine keep_far ?_ j2.out _)|exact HK.out)⟩;have d8:Aside0 (Below w0.heap.size w0 (k0.setCell ⟨a4,4,none⟩ (.int .i64 g0))):=⟨by repeat (first|(with_reducible first|exact HB.out|apply zza|apply zzb|apply zzc|refine zzd ?_ (Qa.ge a8.out)|refine zzd ?_ e4.out|refine zzd ?_ e5.out|refine zzd ?_ g3.out)|exact HB.out)⟩
       (try clear b6)
       (try clear a6)
       (try clear a5)
       (try clear a7)
       (try clear b4)
       (try clear a8)
       (try clear HK)
       (try clear HB);generalize (k0.setCell ⟨a4,4,none⟩ (.int .i64 g0))=L4 at c2 c7 c8 c9 d0 d5 d7 d8 ⊢;have b6:=c2;have a6:=c7;have a5:=c8;have a7:=c9;have b4:=d0;have a8:=d5;have HK:=d7;have HB:=d8;clear c2 c7 c8 c9 d0 d5 d7 d8;have c2:=zzm (Kd.R_drew b6.out);have c7:=zzm (Kd.N_drew a6.out);have c8:=zzm (zzg a5.out);have c9:=zzm (zzg a7.out);have d0:=zzm (zzg b4.out);have d5:=zzm (Qa.drew a8.out);have d7:=zzm (keep_drew HK.out);have d8:=zzm (zzc HB.out);clear b6 a6 a5 a7 b4 a8 HK HB;have b6:=c2;have a6:=c7;have a5:=c8;have a7:=c9;have b4:=d0;have a8:=d5;have HK:=d7;have HB:=d8;clear c2 c7 c8 c9 d0 d5 d7 d8;refine start_ (n:=4) (S:=fun w'=>w'.cell? ⟨a4,0,none⟩=some (.bool b1)∧w'.cell? ⟨a4,1,none⟩=some (.bool b2)∧w'.cell? ⟨a4,2,none⟩=some (.int .i64 ((Qd a2 a3).f0))∧w'.cell? ⟨a4,3,none⟩=some (.int .i64 ((Qd a2 a3).f1))∧w'.cell? ⟨a4,4,none⟩=some (.int .i64 g0)∧w'.cell? ⟨a4,5,none⟩=some (.slice d2 b5.length d3)) (ds:=[]) #[false,false,false,false] (by kernel_rfl) rfl rfl ⟨(zzk a7.out 0).trans rfl,(zzk a7.out 1).trans rfl,(zzk a7.out 2).trans rfl,(zzk a7.out 3).trans rfl,(zzk a7.out 4).trans rfl,(zzk a7.out 5).trans rfl⟩ (fun c0=>?_);generalize L4.drew=m1 at b6 a6 a5 a7 b4 a8 HK HB c0 ⊢;refine pure_ (i:=0) (N:=some 62) (v:=?_) (a':=?_) #[true,false,false,false] rfl rfl (by kernel_rfl) (fun _ _ _ h=>h) (Or.inl ⟨by rfl,?_⟩) ?_ ?_;rotate_left
       ·
        intro w';go_simp;with_reducible rfl
       rotate_left
       ·
        simp only [zzJ];rfl
       refine pure_ (i:=2) (N:=some 2) (v:=?_) (a':=?_) #[true,false,true,false] rfl rfl (by kernel_rfl) (fun _ _ _ h=>h) (Or.inl ⟨by rfl,?_⟩) ?_ ?_;rotate_left
       ·
        intro w';go_simp;with_reducible rfl
       rotate_left
       ·
        simp only [zzJ];rfl
       refine take_ (i:=1) (N:=some 63) (v:=?_) (a':=?_) #[true,true,true,false] rfl rfl (by kernel_rfl) (fun _ _ _ h=>h) (Or.inl ⟨by rfl,?_⟩) c0 ?_ ?_;rotate_left
       ·
        rintro w' ⟨s0,s1,s2,s3,s4,s5⟩;go_simp;with_reducible rfl
       rotate_left
       ·
        simp only [zzJ];rfl
       refine one_ (i:=3) (N:=none) #[true,true,true,true] rfl rfl (by kernel_rfl) (by decide) (fun K hK=>?_);have S9:m1.cell? ⟨a1,0,none⟩=some (.bool false):=(zzk a5.out 0).trans rfl;have O0:=zzl a5.out 0;have x7:=a0.out;have x8:=d6.out;have x9:=a9.out;have y0:=b7.out;have T0:m1.cell? ⟨a1,1,none⟩=some (.bool false):=(zzk a5.out 1).trans rfl;have O1:=zzl a5.out 1;have y1:=a0.out;have y2:=d6.out;have y3:=a9.out;have y4:=b7.out;have T1:m1.cell? ⟨a1,2,none⟩=some (.int .i64 0):=(zzk a5.out 2).trans rfl;have O2:=zzl a5.out 2;have y5:=a0.out;have y6:=d6.out;have y7:=a9.out;have y8:=b7.out;have T2:m1.cell? ⟨a1,3,none⟩=some (.int .i64 0):=(zzk a5.out 3).trans rfl;have O3:=zzl a5.out 3;have y9:=a0.out;have z0:=d6.out;have z1:=a9.out;have z2:=b7.out;have T3:m1.cell? ⟨a1,4,none⟩=some (.int .i64 0):=(zzk a5.out 4).trans rfl;have O4:=zzl a5.out 4;have z3:=a0.out;have z4:=d6.out;have z5:=a9.out;have z6:=b7.out;have T5:m1.cell? ⟨a1,5,none⟩=some (.slice none 0 0):=(zzk a5.out 5).trans rfl;have O5:=zzl a5.out 5;have z7:=a0.out;have z8:=d6.out;have z9:=a9.out;have A0:=b7.out;refine skip_ (w1:=?_) (by rfl) rfl ?_ ?_;rotate_left
       ·
        go_simp;rfl
       refine hK.out _ _ ⟨((cell_far (p:=⟨a1,_,none⟩) a0.out _).trans (((cell_far (p:=⟨a1,_,none⟩) a0.out _).trans (((cell_far (p:=⟨a1,_,none⟩) a0.out _).trans (((cell_far (p:=⟨a1,_,none⟩) a0.out _).trans (((cell_far (p:=⟨a1,_,none⟩) a0.out _).trans (((cell_far (p:=⟨a1,_,none⟩) a0.out _).trans (c0.1)))))))))))),((cell_far (p:=⟨a1,_,none⟩) a0.out _).trans (((cell_far (p:=⟨a1,_,none⟩) a0.out _).trans (((cell_far (p:=⟨a1,_,none⟩) a0.out _).trans (((cell_far (p:=⟨a1,_,none⟩) a0.out _).trans (((cell_far (p:=⟨a1,_,none⟩) a0.out _).trans (((cell_far (p:=⟨a1,_,none⟩) a0.out _).trans (c0.2.1)))))))))))),((cell_far (p:=⟨a1,_,none⟩) a0.out _).trans (((cell_far (p:=⟨a1,_,none⟩) a0.out _).trans (((cell_far (p:=⟨a1,_,none⟩) a0.out _).trans (((cell_far (p:=⟨a1,_,none⟩) a0.out _).trans (((cell_far (p:=⟨a1,_,none⟩) a0.out _).trans (((cell_far (p:=⟨a1,_,none⟩) a0.out _).trans (c0.2.2.1)))))))))))),((cell_far (p:=⟨a1,_,none⟩) a0.out _).trans (((cell_far (p:=⟨a1,_,none⟩) a0.out _).trans (((cell_far (p:=⟨a1,_,none⟩) a0.out _).trans (((cell_far (p:=⟨a1,_,none⟩) a0.out _).trans (((cell_far (p:=⟨a1,_,none⟩) a0.out _).trans (((cell_far (p:=⟨a1,_,none⟩) a0.out _).trans (c0.2.2.2.1)))))))))))),((cell_far (p:=⟨a1,_,none⟩) a0.out _).trans (((cell_far (p:=⟨a1,_,none⟩) a0.out _).trans (((cell_far (p:=⟨a1,_,none⟩) a0.out _).trans (((cell_far (p:=⟨a1,_,none⟩) a0.out _).trans (((cell_far (p:=⟨a1,_,none⟩) a0.out _).trans (((cell_far (p:=⟨a1,_,none⟩) a0.out _).trans (c0.2.2.2.2.1)))))))))))),((cell_far (p:=⟨a1,_,none⟩) a0.out _).trans (((cell_far (p:=⟨a1,_,none⟩) a0.out _).trans (((cell_far (p:=⟨a1,_,none⟩) a0.out _).trans (((cell_far (p:=⟨a1,_,none⟩) a0.out _).trans (((cell_far (p:=⟨a1,_,none⟩) a0.out _).trans (((cell_far (p:=⟨a1,_,none⟩) a0.out _).trans (c0.2.2.2.2.2))))))))))))⟩ (fun c0=>?_);clear hK K;refine done_ (by kernel_rfl) ?_;try go_wp2
       refine bodyPost_ret (results_tc rfl _ _ a1 26 #[.bool b1,.bool b2,.int .i64 ((Qd a2 a3).f0),.int .i64 ((Qd a2 a3).f1),.int .i64 g0,.slice d2 b5.length d3] (0,0) _ rfl (by (with_reducible repeat (first|apply zzf|apply zzg|apply zze));refine zzi (cs:=#[.bool b1,.bool b2,.int .i64 ((Qd a2 a3).f0),.int .i64 ((Qd a2 a3).f1),.int .i64 g0,.slice none 0 0]) ?_ 5 _ rfl;refine zzi (cs:=#[.bool b1,.bool b2,.int .i64 ((Qd a2 a3).f0),.int .i64 ((Qd a2 a3).f1),.int .i64 0,.slice none 0 0]) ?_ 4 _ rfl;refine zzi (cs:=#[.bool b1,.bool b2,.int .i64 ((Qd a2 a3).f0),.int .i64 0,.int .i64 0,.slice none 0 0]) ?_ 3 _ rfl;refine zzi (cs:=#[.bool b1,.bool b2,.int .i64 0,.int .i64 0,.int .i64 0,.slice none 0 0]) ?_ 2 _ rfl;refine zzi (cs:=#[.bool b1,.bool false,.int .i64 0,.int .i64 0,.int .i64 0,.slice none 0 0]) ?_ 1 _ rfl;refine zzi (cs:=#[.bool false,.bool false,.int .i64 0,.int .i64 0,.int .i64 0,.slice none 0 0]) ?_ 0 _ rfl;(with_reducible repeat (first|apply zzf|apply zzg|apply zze));exact a5.out) Try.underlying26 rfl (by kernel_rfl)) rfl ?_;exact ⟨_,_,by first|rfl|(simp [errW_none,errW_some] <;> rfl)|(simp only [← hji27];first|rfl|(simp [errW_none,errW_some] <;> rfl))|(simp [*,errW_none,errW_some] <;> rfl),by (with_reducible repeat (first|apply Kd.R_alloc|apply Kd.R_drewN|apply Kd.R_drew));exact Kd.R_mono (Kd.R_far (p:=⟨a1,5,none⟩) (Kd.R_far (p:=⟨a1,4,none⟩) (Kd.R_far (p:=⟨a1,3,none⟩) (Kd.R_far (p:=⟨a1,2,none⟩) (Kd.R_far (p:=⟨a1,1,none⟩) (Kd.R_far (p:=⟨a1,0,none⟩) (Kd.R_types b6.out a5.out (by decide)) (fun _ hk=>hk.2) (.bool b1)) (fun _ hk=>hk.2) (.bool b2)) (fun _ hk=>hk.2) (.int .i64 ((Qd a2 a3).f0))) (fun _ hk=>hk.2) (.int .i64 ((Qd a2 a3).f1))) (fun _ hk=>hk.2) (.int .i64 g0)) (fun _ hk=>hk.2) (.slice d2 b5.length d3)) (fun _ hk=>hk.1.1),by (with_reducible repeat (first|apply Kd.N_alloc|apply Kd.N_drewN|apply Kd.N_drew));exact Kd.N_mono (Kd.N_far (p:=⟨a1,5,none⟩) (Kd.N_far (p:=⟨a1,4,none⟩) (Kd.N_far (p:=⟨a1,3,none⟩) (Kd.N_far (p:=⟨a1,2,none⟩) (Kd.N_far (p:=⟨a1,1,none⟩) (Kd.N_far (p:=⟨a1,0,none⟩) (Kd.N_mono a6.out (fun k_ hk=>(⟨hk,hk.2.2.1⟩:_∧k_≠a1))) (fun _ hk=>hk.2) (.bool b1)) (fun _ hk=>hk.2) (.bool b2)) (fun _ hk=>hk.2) (.int .i64 ((Qd a2 a3).f0))) (fun _ hk=>hk.2) (.int .i64 ((Qd a2 a3).f1))) (fun _ hk=>hk.2) (.int .i64 g0)) (fun _ hk=>hk.2) (.slice d2 b5.length d3)) (fun _ hk=>⟨hk.1.1,hk.1.2.1⟩),by repeat (first|(with_reducible first|exact a8.out|apply Qa.alloc|apply Qa.drewN|apply Qa.drew|apply Qa.set_1|refine Qa.far ?_ b3.out _|refine Qa.far ?_ b8.out _|refine Qa.far ?_ d9.out _)|exact a8.out),by repeat (first|(with_reducible first|exact HB.out|apply zza|apply zzb|apply zzc|refine zzd ?_ (Qa.ge a8.out)|refine zzd ?_ e4.out|refine zzd ?_ e5.out|refine zzd ?_ g3.out)|exact HB.out),by repeat (first|(with_reducible first|exact HK.out|apply KeepBut.set_|apply keep_drewN|apply keep_drew|apply keep_alloc|refine keep_far ?_ h7.out _|refine keep_far ?_ h8.out _|refine keep_far ?_ j2.out _)|exact HK.out)⟩
      ·
       rw [if_neg n1] at H;obtain ⟨q4,q5⟩:=zzY n1;by_cases n2:k1=1
       ·
        rw [if_pos n2] at H;obtain ⟨q6,q7⟩:=zzQ n2;clear n2;replace H:=zzH H;obtain ⟨⟨l6,l7⟩,q1,H⟩:=H;replace H:((Qb.f h0 b9 l7 2).bind fun g8=>(some (a2,b1,b2,(Qd a2 a3).f0,mx (wrap64 ((wrap64 (((Qd a2 a3).f1)+l6)) - 1)) 0,g8.1,b5,g8.2)))=some (r1,r2,r3,r4,r5,r6,r7,r8):=H;have s7:=zzm q1;clear q1;obtain ⟨g9,hji52⟩:∃ j_:Int,(mx (wrap64 ((wrap64 (((Qd a2 a3).f1)+l6)) - 1)) 0)=j_:=⟨_,rfl⟩;replace H:((Qb.f h0 b9 l7 2).bind fun g8=>(some (a2,b1,b2,(Qd a2 a3).f0,g9,g8.1,b5,g8.2)))=some (r1,r2,r3,r4,r5,r6,r7,r8):=by first|(rw [hji52] at H;exact H)|(simp only [hji52] at H ⊢;exact H)
        (try rw [hji52] at m9)
        (try rw [hji52] at n0)
        (try rw [hji52] at s7);have hji52_:(if (wrap64 ((wrap64 (((Qd a2 a3).f1)+l6)) - 1)) < 0 then 0 else (wrap64 ((wrap64 (((Qd a2 a3).f1)+l6)) - 1)))=g9:=hji52;replace H:=zzH H;obtain ⟨⟨g1,n6⟩,q2,H⟩:=H;replace H:(some (a2,b1,b2,(Qd a2 a3).f0,g9,g1,b5,n6))=some (r1,r2,r3,r4,r5,r6,r7,r8):=H;have L5:=zzm q2;clear q2;simp only [Option.some.injEq,Prod.mk.injEq] at H;obtain ⟨rfl,rfl,rfl,rfl,rfl,rfl,rfl,rfl⟩:=H;obtain ⟨t1,k8,eo54⟩:=Kd.R_slice b6.out;subst eo54;try go_wp2_with (first|((with_reducible refine gate_callee (f:=50) rfl ?_);refine goesL_ (some 25) rfl rfl Try.func50 (by kernel_rfl) rfl #[.pointer (some ⟨g,0,none⟩),.int .i64 (a2.length:Int)] rfl zzM2 ?_;(with_reducible refine (Qb.calls h0 g b9 g2 (a2.length:Int) a3 g4 w0 _ ?side1 ?side2 m9.out).mono ?_);(case side1=>repeat (first|(with_reducible first|exact a8.out|apply Qa.alloc|apply Qa.drewN|apply Qa.drew|apply Qa.set_1|refine Qa.far ?_ b3.out _|refine Qa.far ?_ b8.out _)|exact a8.out));(case side2=>repeat (first|(with_reducible first|exact HB.out|apply zza|apply zzb|apply zzc|refine zzd ?_ (Qa.ge a8.out)|refine zzd ?_ e4.out|refine zzd ?_ e5.out)|exact HB.out));rintro e V9 ⟨rfl,hi,hb,hk⟩;refine ⟨_,rfl,?_⟩;have c2:=zzm (Kd.R_mono (Kd.R_keep (Qa.apart (show Qa w0 _ g b9 g2 from by repeat (first|(with_reducible first|exact a8.out|apply Qa.alloc|apply Qa.drewN|apply Qa.drew|apply Qa.set_1|refine Qa.far ?_ b3.out _|refine Qa.far ?_ b8.out _)|exact a8.out)) (by (with_reducible repeat (first|apply Kd.R_alloc|apply Kd.R_drewN|apply Kd.R_drew));exact b6.out) (by decide)) hk (fun _ h=>h.2)) (fun _ h=>h.1));have c7:=zzm (Kd.N_mono (Kd.N_keep (Kd.N_mono (ok:=fun k_=>(((w.heap.size≤k_))∧(some k_≠(.slice t1 a2.length k8:Value).ownBlock∧(k_≠a1∧(k_≠a4∧k_≠g))))) (zzN a6.out) (fun k_ hk_=>(⟨hk_,hk_.2.2.2.2⟩:_∧k_≠g))) hk (fun _ h=>h.2)) (fun _ h=>h.1));have c8:=zzm (KeepBut.blk hk (g':=a1) (o:=.cells #[.bool false,.bool false,.int .i64 0,.int .i64 0,.int .i64 0,.slice none 0 0] 26 (0,0)) (zzE a5.out) e7.out (by simp));have c9:=zzm (KeepBut.blk hk (g':=a4) (o:=.cells #[.bool b1,.bool b2,.int .i64 e0,.int .i64 e1,.int .i64 e2,.slice d2 b5.length d3] 26 (0,0)) (zzE a7.out) e6.out (by simp));have d0:=zzm (KeepBut.trans (zzk3 HK) hk (.inl rfl));have d5:=zzm (hb);have d7:=zzm (hi);clear b6 a6 a5 a7 HK HB a8;have b6:=c2;have a6:=c7;have a5:=c8;have a7:=c9;have HK:=d0;have HB:=d5;have a8:=d7;clear c2 c7 c8 c9 d0 d5 d7;(try clear hb);(try clear hb2);(try clear hk);(try clear hi);have h5 : 0≤(a3:Int):=zzt;have h6:a3 < (a2.length:Int):=zzt;obtain ⟨g6,l5,l8,l9,m0⟩:=Rf (Kd.R_reads' b6.out).2.2 a3 h5 h6;cases l5;replace h5:=eq_true h5;replace h6:=eq_true h6)|((with_reducible refine gate_dst (N:=6) rfl ?_);refine box_event ?hg (N:=6) ?hd (cs:=#[.int .i64 0,.int .i64 0,.int .i64 0]) (t:=67) ?hr ?_;(case hd=>rfl);(case hg=>rfl);(case hr=>first|(go_simp;done)|(go_simp;rfl));intro b0 hg W0 hbox hb;have c2:=zzm (Kd.R_below (Kd.R_elderB (by (with_reducible repeat (first|apply Kd.R_alloc|apply Kd.R_drewN|apply Kd.R_drew));exact b6.out) b0 (Nat.le_of_eq hg.symm)) hb);have c7:=zzm (Kd.N_below (Kd.N_elderB (zzN a6.out) b0 (Nat.le_of_eq hg.symm)) hb);have c8:=zzm (zzh (g:=a1) (o:=.cells #[.bool false,.bool false,.int .i64 0,.int .i64 0,.int .i64 0,.slice none 0 0] 26 (0,0)) (zzE a5.out) hb);have c9:=zzm (zzh (g:=a4) (o:=.cells #[.bool b1,.bool b2,.int .i64 e0,.int .i64 e1,.int .i64 e2,.slice d2 b5.length d3] 26 (0,0)) (zzE a7.out) hb);have d0:=zzm (Qa.below (by repeat (first|(with_reducible first|exact a8.out|apply Qa.alloc|apply Qa.drewN|apply Qa.drew|apply Qa.set_1|refine Qa.far ?_ b3.out _|refine Qa.far ?_ b8.out _)|exact a8.out)) hb);have d5:=zzm (KeepBut.trans (zzk3 HK) (KeepBut.of_below hb g none) (.inl rfl));have d7:=zzm (zzp (by repeat (first|(with_reducible first|exact HB.out|apply zza|apply zzb|apply zzc|refine zzd ?_ (Qa.ge a8.out)|refine zzd ?_ e4.out|refine zzd ?_ e5.out)|exact HB.out)) hb);have d8:=zzm (hbox);have j4:=zzm ((by rw [hg];exact (keep_size (w:=w) (g:=g) (row:=none) (zzk3 HK)):w.heap.size≤b0));have j5:=zzm ((Nat.le_trans HW0.out (by rw [hg];exact (keep_size (w:=w) (g:=g) (row:=none) (zzk3 HK)):w.heap.size≤b0):w0.heap.size≤b0));have h2:=zzm ((by rw [hg];exact Nat.ne_of_lt (blk_lt (g:=a1) (o:=.cells #[.bool false,.bool false,.int .i64 0,.int .i64 0,.int .i64 0,.slice none 0 0] 26 (0,0)) (zzE a5.out)):a1≠b0));have h3:=zzm ((by rw [hg];exact Nat.ne_of_gt (blk_lt (g:=a1) (o:=.cells #[.bool false,.bool false,.int .i64 0,.int .i64 0,.int .i64 0,.slice none 0 0] 26 (0,0)) (zzE a5.out)):b0≠a1));have h4:=zzm ((by rw [hg];exact Nat.ne_of_lt (blk_lt (g:=a4) (o:=.cells #[.bool b1,.bool b2,.int .i64 e0,.int .i64 e1,.int .i64 e2,.slice d2 b5.length d3] 26 (0,0)) (zzE a7.out)):a4≠b0));have j6:=zzm ((by rw [hg];exact Nat.ne_of_gt (blk_lt (g:=a4) (o:=.cells #[.bool b1,.bool b2,.int .i64 e0,.int .i64 e1,.int .i64 e2,.slice d2 b5.length d3] 26 (0,0)) (zzE a7.out)):b0≠a4));have j7:=zzm ((by rw [hg];exact Nat.ne_of_lt (Qa.lt (show Qa w0 _ g b9 g4 from by repeat (first|(with_reducible first|exact a8.out|apply Qa.alloc|apply Qa.drewN|apply Qa.drew|apply Qa.set_1|refine Qa.far ?_ b3.out _|refine Qa.far ?_ b8.out _)|exact a8.out))):g≠b0));have j8:=zzm ((by rw [hg];exact Nat.ne_of_gt (Qa.lt (show Qa w0 _ g b9 g4 from by repeat (first|(with_reducible first|exact a8.out|apply Qa.alloc|apply Qa.drewN|apply Qa.drew|apply Qa.set_1|refine Qa.far ?_ b3.out _|refine Qa.far ?_ b8.out _)|exact a8.out))):b0≠g));clear b6 a6 a5 a7 a8 HK HB;have b6:=c2;have a6:=c7;have a5:=c8;have a7:=c9;have a8:=d0;have HK:=d5;have HB:=d7;have b4:=d8;have j2:=j4;have g3:=j5;have b7:=h2;have d6:=h3;have e3:=h4;have d1:=j6;have d9:=j7;have e9:=j8;clear c2 c7 c8 c9 d0 d5 d7 d8 j4 j5 h2 h3 h4 j6 j7 j8 hb hbox hg;have O6:=d6.out;have O7:=b7.out;have O8:=d1.out;have O9:=e3.out;have P0:=e9.out;have P1:=d9.out;obtain ⟨A1,A5,A6,A7,A8,A9⟩:=zzc3 b4.out;have P2:=a0.out;have P3:=a9.out;have P4:=e6.out;have P5:=b8.out;obtain ⟨B0,B1,B2,B3,B5,B6,B7,B8,B9,C0,C1,C2⟩:=zzc6 a7.out)|((with_reducible refine gate_callee (f:=50) rfl ?_);refine goesL_ (some 38) rfl rfl Try.func50 (by kernel_rfl) rfl #[.pointer (some ⟨g,0,none⟩),.int .i64 6] rfl zzM2 ?_;(with_reducible refine (Qb.calls h0 g b9 g4 6 k1 h9 w0 _ ?side1 ?side2 n0.out).mono ?_);(case side1=>repeat (first|(with_reducible first|exact a8.out|apply Qa.alloc|apply Qa.drewN|apply Qa.drew|apply Qa.set_1|refine Qa.far ?_ b3.out _|refine Qa.far ?_ b8.out _|refine Qa.far ?_ d9.out _)|exact a8.out));(case side2=>repeat (first|(with_reducible first|exact HB.out|apply zza|apply zzb|apply zzc|refine zzd ?_ (Qa.ge a8.out)|refine zzd ?_ e4.out|refine zzd ?_ e5.out|refine zzd ?_ g3.out)|exact HB.out));rintro e L6 ⟨rfl,hi,hb,hk⟩;refine ⟨_,rfl,?_⟩;have c2:=zzm (Kd.R_mono (Kd.R_keep (Qa.apart (show Qa w0 _ g b9 g4 from by repeat (first|(with_reducible first|exact a8.out|apply Qa.alloc|apply Qa.drewN|apply Qa.drew|apply Qa.set_1|refine Qa.far ?_ b3.out _|refine Qa.far ?_ b8.out _|refine Qa.far ?_ d9.out _)|exact a8.out)) (by (with_reducible repeat (first|apply Kd.R_alloc|apply Kd.R_drewN|apply Kd.R_drew));exact (Kd.R_mono (Kd.R_mono (Kd.R_far (p:=⟨a4,4,none⟩) (Kd.R_far (p:=⟨a4,3,none⟩) (Kd.R_far (p:=⟨a4,2,none⟩) (Kd.R_far (p:=⟨b0,2,none⟩) (Kd.R_far (p:=⟨b0,1,none⟩) (Kd.R_far (p:=⟨b0,0,none⟩) (Kd.R_types (Kd.R_mono b6.out (fun k_ hk=>(⟨hk,hk.2⟩:_∧k_≠b0))) a7.out (by decide)) (fun _ hk=>hk.1.2) (.int .i64 ((Qd a2 a3).f0))) (fun _ hk=>hk.1.2) (.int .i64 ((Qd a2 a3).f1))) (fun _ hk=>hk.1.2) (.int .i64 ((Qd a2 a3).f2))) (fun _ hk=>hk.2) (.int .i64 ((Qd a2 a3).f0))) (fun _ hk=>hk.2) (.int .i64 ((Qd a2 a3).f1))) (fun _ hk=>hk.2) (.int .i64 ((Qd a2 a3).f2))) (fun _ h_=>h_.1)) (fun _ h_=>h_.1))) (by decide)) hk (fun _ h=>h.2)) (fun _ h=>h.1));have c7:=zzm (Kd.N_mono (Kd.N_keep (Kd.N_mono (ok:=fun k_=>((((w.heap.size≤k_))∧(some k_≠(.slice (some g6) a2.length k8:Value).ownBlock∧(k_≠a1∧(k_≠a4∧k_≠g))))∧k_≠b0)) (zzN ((Kd.N_mono (Kd.N_mono (Kd.N_far (p:=⟨a4,4,none⟩) (Kd.N_far (p:=⟨a4,3,none⟩) (Kd.N_far (p:=⟨a4,2,none⟩) (Kd.N_far (p:=⟨b0,2,none⟩) (Kd.N_far (p:=⟨b0,1,none⟩) (Kd.N_far (p:=⟨b0,0,none⟩) (Kd.N_mono (Kd.N_mono a6.out (fun k_ hk=>(⟨hk,hk.2⟩:_∧k_≠b0))) (fun k_ hk=>(⟨hk,hk.1.1.2.2.2.1⟩:_∧k_≠a4))) (fun _ hk=>hk.1.2) (.int .i64 ((Qd a2 a3).f0))) (fun _ hk=>hk.1.2) (.int .i64 ((Qd a2 a3).f1))) (fun _ hk=>hk.1.2) (.int .i64 ((Qd a2 a3).f2))) (fun _ hk=>hk.2) (.int .i64 ((Qd a2 a3).f0))) (fun _ hk=>hk.2) (.int .i64 ((Qd a2 a3).f1))) (fun _ hk=>hk.2) (.int .i64 ((Qd a2 a3).f2))) (fun _ h_=>h_.1)) (fun _ h_=>h_.1)))) (fun k_ hk_=>(⟨hk_,hk_.1.2.2.2.2⟩:_∧k_≠g))) hk (fun _ h=>h.2)) (fun _ h=>h.1));have c8:=zzm (KeepBut.blk hk (g':=a1) (o:=.cells #[.bool false,.bool false,.int .i64 0,.int .i64 0,.int .i64 0,.slice none 0 0] 26 (0,0)) (by (with_reducible repeat (first|apply zzf|apply zzg|apply zze));refine zzj ?_ a9.out _;(with_reducible repeat (first|apply zzf|apply zzg|apply zze));refine zzj ?_ a9.out _;(with_reducible repeat (first|apply zzf|apply zzg|apply zze));refine zzj ?_ a9.out _;(with_reducible repeat (first|apply zzf|apply zzg|apply zze));refine zzj ?_ b7.out _;(with_reducible repeat (first|apply zzf|apply zzg|apply zze));refine zzj ?_ b7.out _;(with_reducible repeat (first|apply zzf|apply zzg|apply zze));refine zzj ?_ b7.out _;(with_reducible repeat (first|apply zzf|apply zzg|apply zze));exact a5.out) e7.out (by simp));have c9:=zzm (KeepBut.blk hk (g':=a4) (o:=.cells #[.bool b1,.bool b2,.int .i64 ((Qd a2 a3).f0),.int .i64 ((Qd a2 a3).f1),.int .i64 ((Qd a2 a3).f2),.slice d2 b5.length d3] 26 (0,0)) (by (with_reducible repeat (first|apply zzf|apply zzg|apply zze));refine zzi (cs:=#[.bool b1,.bool b2,.int .i64 ((Qd a2 a3).f0),.int .i64 ((Qd a2 a3).f1),.int .i64 e2,.slice d2 b5.length d3]) ?_ 4 _ rfl;refine zzi (cs:=#[.bool b1,.bool b2,.int .i64 ((Qd a2 a3).f0),.int .i64 e1,.int .i64 e2,.slice d2 b5.length d3]) ?_ 3 _ rfl;refine zzi (cs:=#[.bool b1,.bool b2,.int .i64 e0,.int .i64 e1,.int .i64 e2,.slice d2 b5.length d3]) ?_ 2 _ rfl;(with_reducible repeat (first|apply zzf|apply zzg|apply zze));refine zzj ?_ e3.out _;(with_reducible repeat (first|apply zzf|apply zzg|apply zze));refine zzj ?_ e3.out _;(with_reducible repeat (first|apply zzf|apply zzg|apply zze));refine zzj ?_ e3.out _;(with_reducible repeat (first|apply zzf|apply zzg|apply zze));exact a7.out) e6.out (by simp));have d0:=zzm (KeepBut.blk hk (g':=b0) (o:=.cells #[.int .i64 ((Qd a2 a3).f0),.int .i64 ((Qd a2 a3).f1),.int .i64 ((Qd a2 a3).f2)] 67 (0,0)) (by (with_reducible repeat (first|apply zzf|apply zzg|apply zze));refine zzj ?_ d1.out _;(with_reducible repeat (first|apply zzf|apply zzg|apply zze));refine zzj ?_ d1.out _;(with_reducible repeat (first|apply zzf|apply zzg|apply zze));refine zzj ?_ d1.out _;(with_reducible repeat (first|apply zzf|apply zzg|apply zze));refine zzi (cs:=#[.int .i64 ((Qd a2 a3).f0),.int .i64 ((Qd a2 a3).f1),.int .i64 0]) ?_ 2 _ rfl;refine zzi (cs:=#[.int .i64 ((Qd a2 a3).f0),.int .i64 0,.int .i64 0]) ?_ 1 _ rfl;refine zzi (cs:=#[.int .i64 0,.int .i64 0,.int .i64 0]) ?_ 0 _ rfl;(with_reducible repeat (first|apply zzf|apply zzg|apply zze));exact b4.out) e9.out (by simp));have d5:=zzm (KeepBut.trans (zzk3 HK) hk (.inl rfl));have d7:=zzm (hb);have d8:=zzm (hi);clear b6 a6 a5 a7 b4 HK HB a8;have b6:=c2;have a6:=c7;have a5:=c8;have a7:=c9;have b4:=d0;have HK:=d5;have HB:=d7;have a8:=d8;clear c2 c7 c8 c9 d0 d5 d7 d8;(try clear hb);(try clear hb2);(try clear hk);(try clear hi)))
        have c2:=zzm (Kd.R_drew b6.out);have c7:=zzm (Kd.N_drew a6.out);have c8:=zzm (zzg a5.out);have c9:=zzm (zzg a7.out);have d0:=zzm (zzg b4.out);have d5:=zzm (Qa.drew a8.out);have d7:=zzm (keep_drew HK.out);have d8:=zzm (zzc HB.out);clear b6 a6 a5 a7 b4 a8 HK HB;have b6:=c2;have a6:=c7;have a5:=c8;have a7:=c9;have b4:=d0;have a8:=d5;have HK:=d7;have HB:=d8;clear c2 c7 c8 c9 d0 d5 d7 d8;refine start_ (n:=9) (S:=fun w'=>w'.cell? ⟨b0,0,none⟩=some (.int .i64 ((Qd a2 a3).f0))∧w'.cell? ⟨b0,1,none⟩=some (.int .i64 ((Qd a2 a3).f1))∧w'.cell? ⟨b0,2,none⟩=some (.int .i64 ((Qd a2 a3).f2))) (ds:=[]) (zzB 9 0) (by kernel_rfl) rfl rfl ⟨(zzk b4.out 0).trans rfl,(zzk b4.out 1).trans rfl,(zzk b4.out 2).trans rfl⟩ (fun c0=>?_);refine with_tabW Qf.tab12 Qf.bits12 (fun g5 q0=>?_);generalize L6.drew=W1 at b6 a6 a5 a7 b4 a8 HK HB c0 ⊢;refine zzP 0 51 9 1 g5 ?_
        refine zzP 2 53 9 5 g5 ?_
        refine zzT 1 52 9 7 g5 q0 c0 ?_
        refine one_ (i:=3) (N:=some 54) (zzB 9 15) rfl rfl (one_of g5.out (by kernel_rfl)) (by decide) (fun K hK=>?_);refine goes_ Try.func50 (by kernel_rfl) rfl #[.pointer (some ⟨g,0,none⟩),.int .i64 3] (by rfl) rfl rfl zzM2 ?_;with_reducible refine (Qb.calls h0 g b9 h9 3 l6 l7 w0 _ ?side1 ?side2 s7.out).mono ?_
        (case side1=>repeat (first|(with_reducible first|exact a8.out|apply Qa.alloc|apply Qa.drewN|apply Qa.drew|apply Qa.set_1|refine Qa.far ?_ b3.out _|refine Qa.far ?_ b8.out _|refine Qa.far ?_ d9.out _)|exact a8.out))
        (case side2=>repeat (first|(with_reducible first|exact HB.out|apply zza|apply zzb|apply zzc|refine zzd ?_ (Qa.ge a8.out)|refine zzd ?_ e4.out|refine zzd ?_ e5.out|refine zzd ?_ g3.out)|exact HB.out));rintro e L7 ⟨rfl,hi,hb,hk⟩;refine ⟨_,rfl,?_⟩;have c2:=zzm (Kd.R_mono (Kd.R_keep (Qa.apart (show Qa w0 _ g b9 h9 from by repeat (first|(with_reducible first|exact a8.out|apply Qa.alloc|apply Qa.drewN|apply Qa.drew|apply Qa.set_1|refine Qa.far ?_ b3.out _|refine Qa.far ?_ b8.out _|refine Qa.far ?_ d9.out _)|exact a8.out)) (by (with_reducible repeat (first|apply Kd.R_alloc|apply Kd.R_drewN|apply Kd.R_drew));exact b6.out) (by decide)) hk (fun _ h=>h.2)) (fun _ h=>h.1));have c7:=zzm (Kd.N_mono (Kd.N_keep (Kd.N_mono (ok:=fun k_=>((((w.heap.size≤k_))∧(some k_≠(.slice (some g6) a2.length k8:Value).ownBlock∧(k_≠a1∧(k_≠a4∧k_≠g))))∧k_≠b0)) (zzN a6.out) (fun k_ hk_=>(⟨hk_,hk_.1.2.2.2.2⟩:_∧k_≠g))) hk (fun _ h=>h.2)) (fun _ h=>h.1));have c8:=zzm (KeepBut.blk hk (g':=a1) (o:=.cells #[.bool false,.bool false,.int .i64 0,.int .i64 0,.int .i64 0,.slice none 0 0] 26 (0,0)) (zzE a5.out) e7.out (by simp));have c9:=zzm (KeepBut.blk hk (g':=a4) (o:=.cells #[.bool b1,.bool b2,.int .i64 ((Qd a2 a3).f0),.int .i64 ((Qd a2 a3).f1),.int .i64 ((Qd a2 a3).f2),.slice d2 b5.length d3] 26 (0,0)) (zzE a7.out) e6.out (by simp));have d0:=zzm (KeepBut.blk hk (g':=b0) (o:=.cells #[.int .i64 ((Qd a2 a3).f0),.int .i64 ((Qd a2 a3).f1),.int .i64 ((Qd a2 a3).f2)] 67 (0,0)) (zzE b4.out) e9.out (by simp));have d5:=zzm (KeepBut.trans (zzk3 HK) hk (.inl rfl));have d7:=zzm (hb);have d8:=zzm (hi);clear b6 a6 a5 a7 b4 HK HB a8;have b6:=c2;have a6:=c7;have a5:=c8;have a7:=c9;have b4:=d0;have HK:=d5;have HB:=d7;have a8:=d8;clear c2 c7 c8 c9 d0 d5 d7 d8
        (try clear hb)
        (try clear hb2)
        (try clear hk)
        (try clear hi);refine hK.out _ _ ⟨(zzk b4.out 0).trans rfl,(zzk b4.out 1).trans rfl,(zzk b4.out 2).trans rfl⟩ (fun c0=>?_);clear hK K;refine zzO 54 ?_
        refine zzP 4 55 9 31 g5 ?_
        refine zzP 5 56 9 63 g5 ?_
        refine zzP 6 57 9 127 g5 ?_
        refine zzP 7 58 9 255 g5 ?_
        refine one_ (i:=8) (N:=none) (zzB 9 511) rfl rfl (one_of g5.out (by kernel_rfl)) (by decide) (fun K hK=>?_);have T6:L7.cell? ⟨a4,3,none⟩=some (.int .i64 ((Qd a2 a3).f1)):=(zzk a7.out 3).trans rfl;have P6:=zzl a7.out 3;have C3:=a9.out;have C4:=d1.out;have C5:=a0.out;have C6:=e3.out;refine skip_ (w1:=?_) (by rfl) rfl ?_ ?_;rotate_left
        ·
         go_simp;rfl
        refine hK.out _ _ ⟨((cell_far (p:=⟨a4,_,none⟩) d1.out _).trans (c0.1)),((cell_far (p:=⟨a4,_,none⟩) d1.out _).trans (c0.2.1)),((cell_far (p:=⟨a4,_,none⟩) d1.out _).trans (c0.2.2))⟩ (fun c0=>?_);clear hK K;refine done_ (done_of g5.out (by kernel_rfl)) ?_;try go_wp2_with (first|((with_reducible refine gate_callee (f:=50) rfl ?_);refine goesL_ (some 60) rfl rfl Try.func50 (by kernel_rfl) rfl #[.pointer (some ⟨g,0,none⟩),.int .i64 2] rfl zzM2 ?_;(with_reducible refine (Qb.calls h0 g b9 l7 2 g1 n6 w0 _ ?side1 ?side2 L5.out).mono ?_);(case side1=>repeat (first|(with_reducible first|exact a8.out|apply Qa.alloc|apply Qa.drewN|apply Qa.drew|apply Qa.set_1|refine Qa.far ?_ b3.out _|refine Qa.far ?_ b8.out _|refine Qa.far ?_ d9.out _)|exact a8.out));(case side2=>repeat (first|(with_reducible first|exact HB.out|apply zza|apply zzb|apply zzc|refine zzd ?_ (Qa.ge a8.out)|refine zzd ?_ e4.out|refine zzd ?_ e5.out|refine zzd ?_ g3.out)|exact HB.out));rintro e k6 ⟨rfl,hi,hb,hk⟩;refine ⟨_,rfl,?_⟩;have c2:=zzm (Kd.R_mono (Kd.R_keep (Qa.apart (show Qa w0 _ g b9 l7 from by repeat (first|(with_reducible first|exact a8.out|apply Qa.alloc|apply Qa.drewN|apply Qa.drew|apply Qa.set_1|refine Qa.far ?_ b3.out _|refine Qa.far ?_ b8.out _|refine Qa.far ?_ d9.out _)|exact a8.out)) (by (with_reducible repeat (first|apply Kd.R_alloc|apply Kd.R_drewN|apply Kd.R_drew));exact (Kd.R_mono (Kd.R_far (p:=⟨a4,3,none⟩) (Kd.R_types b6.out a7.out (by decide)) (fun _ hk=>hk.2) (.int .i64 g9)) (fun _ h_=>h_.1))) (by decide)) hk (fun _ h=>h.2)) (fun _ h=>h.1));have c7:=zzm (Kd.N_mono (Kd.N_keep (Kd.N_mono (ok:=fun k_=>((((w.heap.size≤k_))∧(some k_≠(.slice (some g6) a2.length k8:Value).ownBlock∧(k_≠a1∧(k_≠a4∧k_≠g))))∧k_≠b0)) (zzN ((Kd.N_mono (Kd.N_far (p:=⟨a4,3,none⟩) (Kd.N_mono a6.out (fun k_ hk=>(⟨hk,hk.1.2.2.2.1⟩:_∧k_≠a4))) (fun _ hk=>hk.2) (.int .i64 g9)) (fun _ h_=>h_.1)))) (fun k_ hk_=>(⟨hk_,hk_.1.2.2.2.2⟩:_∧k_≠g))) hk (fun _ h=>h.2)) (fun _ h=>h.1));have c8:=zzm (KeepBut.blk hk (g':=a1) (o:=.cells #[.bool false,.bool false,.int .i64 0,.int .i64 0,.int .i64 0,.slice none 0 0] 26 (0,0)) (by (with_reducible repeat (first|apply zzf|apply zzg|apply zze));refine zzj ?_ a9.out _;(with_reducible repeat (first|apply zzf|apply zzg|apply zze));exact a5.out) e7.out (by simp));have c9:=zzm (KeepBut.blk hk (g':=a4) (o:=.cells #[.bool b1,.bool b2,.int .i64 ((Qd a2 a3).f0),.int .i64 g9,.int .i64 ((Qd a2 a3).f2),.slice d2 b5.length d3] 26 (0,0)) (by (with_reducible repeat (first|apply zzf|apply zzg|apply zze));refine zzi (cs:=#[.bool b1,.bool b2,.int .i64 ((Qd a2 a3).f0),.int .i64 ((Qd a2 a3).f1),.int .i64 ((Qd a2 a3).f2),.slice d2 b5.length d3]) ?_ 3 _ rfl;(with_reducible repeat (first|apply zzf|apply zzg|apply zze));exact a7.out) e6.out (by simp));have d0:=zzm (KeepBut.blk hk (g':=b0) (o:=.cells #[.int .i64 ((Qd a2 a3).f0),.int .i64 ((Qd a2 a3).f1),.int .i64 ((Qd a2 a3).f2)] 67 (0,0)) (by (with_reducible repeat (first|apply zzf|apply zzg|apply zze));refine zzj ?_ d1.out _;(with_reducible repeat (first|apply zzf|apply zzg|apply zze));exact b4.out) e9.out (by simp));have d5:=zzm (KeepBut.trans (zzk3 HK) hk (.inl rfl));have d7:=zzm (hb);have d8:=zzm (hi);clear b6 a6 a5 a7 b4 HK HB a8;have b6:=c2;have a6:=c7;have a5:=c8;have a7:=c9;have b4:=d0;have HK:=d5;have HB:=d7;have a8:=d8;clear c2 c7 c8 c9 d0 d5 d7 d8;(try clear hb);(try clear hb2);(try clear hk);(try clear hi);obtain ⟨C7,C8,C9,D0,D1,D2,D3,D4,D5,D6,D7,D8⟩:=zzc6 a7.out))
        have c2:Aside0 (Kd.R k67 67 (k6.setCell ⟨a4,4,none⟩ (.int .i64 g1)) w.heap.size (fun k_=>(w.heap.size≤k_)∧k_≠b0) (.slice (some g6) a2.length k8) a2):=⟨by (with_reducible repeat (first|apply Kd.R_alloc|apply Kd.R_drewN|apply Kd.R_drew));exact Kd.R_mono (Kd.R_far (p:=⟨a4,4,none⟩) (Kd.R_types b6.out a7.out (by decide)) (fun _ hk=>hk.2) (.int .i64 g1)) (fun _ hk=>⟨hk.1.1,hk.1.2⟩)⟩;have c7:Aside0 (Kd.N k75 75 (k6.setCell ⟨a4,4,none⟩ (.int .i64 g1)) w.heap.size (fun k_=>(w.heap.size≤k_)∧some k_≠(.slice (some g6) a2.length k8:Value).ownBlock∧k_≠a1∧k_≠a4∧k_≠g∧k_≠b0) (.slice d2 b5.length d3) b5):=⟨by (with_reducible repeat (first|apply Kd.N_alloc|apply Kd.N_drewN|apply Kd.N_drew));exact Kd.N_mono (Kd.N_far (p:=⟨a4,4,none⟩) (Kd.N_mono a6.out (fun k_ hk=>(⟨hk,hk.1.2.2.2.1⟩:_∧k_≠a4))) (fun _ hk=>hk.2) (.int .i64 g1)) (fun _ hk=>⟨hk.1.1.1,⟨hk.1.1.2.1,⟨hk.1.1.2.2.1,⟨hk.1.1.2.2.2.1,⟨hk.1.1.2.2.2.2,hk.1.2⟩⟩⟩⟩⟩)⟩;have c8:Aside0 ((k6.setCell ⟨a4,4,none⟩ (.int .i64 g1)).heap[a1]? = some (.cells #[.bool false,.bool false,.int .i64 0,.int .i64 0,.int .i64 0,.slice none 0 0] 26 (0,0))):=⟨by (with_reducible repeat (first|apply zzf|apply zzg|apply zze));refine zzj ?_ a9.out _;(with_reducible repeat (first|apply zzf|apply zzg|apply zze));exact a5.out⟩;have c9:Aside0 ((k6.setCell ⟨a4,4,none⟩ (.int .i64 g1)).heap[a4]? = some (.cells #[.bool b1,.bool b2,.int .i64 ((Qd a2 a3).f0),.int .i64 g9,.int .i64 g1,.slice d2 b5.length d3] 26 (0,0))):=⟨by (with_reducible repeat (first|apply zzf|apply zzg|apply zze));refine zzi (cs:=#[.bool b1,.bool b2,.int .i64 ((Qd a2 a3).f0),.int .i64 g9,.int .i64 ((Qd a2 a3).f2),.slice d2 b5.length d3]) ?_ 4 _ rfl;(with_reducible repeat (first|apply zzf|apply zzg|apply zze));exact a7.out⟩;have d0:Aside0 ((k6.setCell ⟨a4,4,none⟩ (.int .i64 g1)).heap[b0]? = some (.cells #[.int .i64 ((Qd a2 a3).f0),.int .i64 ((Qd a2 a3).f1),.int .i64 ((Qd a2 a3).f2)] 67 (0,0))):=⟨by (with_reducible repeat (first|apply zzf|apply zzg|apply zze));refine zzj ?_ d1.out _;(with_reducible repeat (first|apply zzf|apply zzg|apply zze));exact b4.out⟩;have d5:Aside0 (Qa w0 (k6.setCell ⟨a4,4,none⟩ (.int .i64 g1)) g b9 n6):=⟨by repeat (first|(with_reducible first|exact a8.out|apply Qa.alloc|apply Qa.drewN|apply Qa.drew|apply Qa.set_1|refine Qa.far ?_ b3.out _|refine Qa.far ?_ b8.out _|refine Qa.far ?_ d9.out _)|exact a8.out)⟩;have d7:Aside0 (KeepBut w (k6.setCell ⟨a4,4,none⟩ (.int .i64 g1)) g none):=⟨by repeat (first|(with_reducible first|exact HK.out|apply KeepBut.set_|apply keep_drewN|apply keep_drew|apply keep_alloc|refine keep_far ?_ h7.out _|refine keep_far ?_ h8.out _|refine keep_far ?_ j2.out _)|exact HK.out)⟩;have d8:Aside0 (Below w0.heap.size w0 (k6.setCell ⟨a4,4,none⟩ (.int .i64 g1))):=⟨by repeat (first|(with_reducible first|exact HB.out|apply zza|apply zzb|apply zzc|refine zzd ?_ (Qa.ge a8.out)|refine zzd ?_ e4.out|refine zzd ?_ e5.out|refine zzd ?_ g3.out)|exact HB.out)⟩
        (try clear b6)
        (try clear a6)
        (try clear a5)
        (try clear a7)
        (try clear b4)
        (try clear a8)
        (try clear HK)
        (try clear HB);generalize (k6.setCell ⟨a4,4,none⟩ (.int .i64 g1))=L8 at c2 c7 c8 c9 d0 d5 d7 d8 ⊢;have b6:=c2;have a6:=c7;have a5:=c8;have a7:=c9;have b4:=d0;have a8:=d5;have HK:=d7;have HB:=d8;clear c2 c7 c8 c9 d0 d5 d7 d8;have c2:=zzm (Kd.R_drew b6.out);have c7:=zzm (Kd.N_drew a6.out);have c8:=zzm (zzg a5.out);have c9:=zzm (zzg a7.out);have d0:=zzm (zzg b4.out);have d5:=zzm (Qa.drew a8.out);have d7:=zzm (keep_drew HK.out);have d8:=zzm (zzc HB.out);clear b6 a6 a5 a7 b4 a8 HK HB;have b6:=c2;have a6:=c7;have a5:=c8;have a7:=c9;have b4:=d0;have a8:=d5;have HK:=d7;have HB:=d8;clear c2 c7 c8 c9 d0 d5 d7 d8;refine start_ (n:=4) (S:=fun w'=>w'.cell? ⟨a4,0,none⟩=some (.bool b1)∧w'.cell? ⟨a4,1,none⟩=some (.bool b2)∧w'.cell? ⟨a4,2,none⟩=some (.int .i64 ((Qd a2 a3).f0))∧w'.cell? ⟨a4,3,none⟩=some (.int .i64 g9)∧w'.cell? ⟨a4,4,none⟩=some (.int .i64 g1)∧w'.cell? ⟨a4,5,none⟩=some (.slice d2 b5.length d3)) (ds:=[]) #[false,false,false,false] (by kernel_rfl) rfl rfl ⟨(zzk a7.out 0).trans rfl,(zzk a7.out 1).trans rfl,(zzk a7.out 2).trans rfl,(zzk a7.out 3).trans rfl,(zzk a7.out 4).trans rfl,(zzk a7.out 5).trans rfl⟩ (fun c0=>?_);generalize L8.drew=m2 at b6 a6 a5 a7 b4 a8 HK HB c0 ⊢;refine pure_ (i:=0) (N:=some 62) (v:=?_) (a':=?_) #[true,false,false,false] rfl rfl (by kernel_rfl) (fun _ _ _ h=>h) (Or.inl ⟨by rfl,?_⟩) ?_ ?_;rotate_left
        ·
         intro w';go_simp;with_reducible rfl
        rotate_left
        ·
         simp only [zzJ];rfl
        refine pure_ (i:=2) (N:=some 2) (v:=?_) (a':=?_) #[true,false,true,false] rfl rfl (by kernel_rfl) (fun _ _ _ h=>h) (Or.inl ⟨by rfl,?_⟩) ?_ ?_;rotate_left
        ·
         intro w';go_simp;with_reducible rfl
        rotate_left
        ·
         simp only [zzJ];rfl
        refine take_ (i:=1) (N:=some 63) (v:=?_) (a':=?_) #[true,true,true,false] rfl rfl (by kernel_rfl) (fun _ _ _ h=>h) (Or.inl ⟨by rfl,?_⟩) c0 ?_ ?_;rotate_left
        ·
         rintro w' ⟨s0,s1,s2,s3,s4,s5⟩;go_simp;with_reducible rfl
        rotate_left
        ·
         simp only [zzJ];rfl
        refine one_ (i:=3) (N:=none) #[true,true,true,true] rfl rfl (by kernel_rfl) (by decide) (fun K hK=>?_);have T7:m2.cell? ⟨a1,0,none⟩=some (.bool false):=(zzk a5.out 0).trans rfl;have P7:=zzl a5.out 0;have D9:=a0.out;have E0:=d6.out;have E1:=a9.out;have E2:=b7.out;have T8:m2.cell? ⟨a1,1,none⟩=some (.bool false):=(zzk a5.out 1).trans rfl;have P8:=zzl a5.out 1;have E3:=a0.out;have E4:=d6.out;have E5:=a9.out;have E6:=b7.out;have T9:m2.cell? ⟨a1,2,none⟩=some (.int .i64 0):=(zzk a5.out 2).trans rfl;have P9:=zzl a5.out 2;have E7:=a0.out;have E8:=d6.out;have E9:=a9.out;have F0:=b7.out;have U0:m2.cell? ⟨a1,3,none⟩=some (.int .i64 0):=(zzk a5.out 3).trans rfl;have Q0:=zzl a5.out 3;have F1:=a0.out;have F2:=d6.out;have F3:=a9.out;have F4:=b7.out;have U1:m2.cell? ⟨a1,4,none⟩=some (.int .i64 0):=(zzk a5.out 4).trans rfl;have Q1:=zzl a5.out 4;have F5:=a0.out;have F6:=d6.out;have F7:=a9.out;have F8:=b7.out;have U2:m2.cell? ⟨a1,5,none⟩=some (.slice none 0 0):=(zzk a5.out 5).trans rfl;have Q2:=zzl a5.out 5;have F9:=a0.out;have G0:=d6.out;have G1:=a9.out;have G2:=b7.out;refine skip_ (w1:=?_) (by rfl) rfl ?_ ?_;rotate_left
        ·
         go_simp;rfl
        refine hK.out _ _ ⟨((cell_far (p:=⟨a1,_,none⟩) a0.out _).trans (((cell_far (p:=⟨a1,_,none⟩) a0.out _).trans (((cell_far (p:=⟨a1,_,none⟩) a0.out _).trans (((cell_far (p:=⟨a1,_,none⟩) a0.out _).trans (((cell_far (p:=⟨a1,_,none⟩) a0.out _).trans (((cell_far (p:=⟨a1,_,none⟩) a0.out _).trans (c0.1)))))))))))),((cell_far (p:=⟨a1,_,none⟩) a0.out _).trans (((cell_far (p:=⟨a1,_,none⟩) a0.out _).trans (((cell_far (p:=⟨a1,_,none⟩) a0.out _).trans (((cell_far (p:=⟨a1,_,none⟩) a0.out _).trans (((cell_far (p:=⟨a1,_,none⟩) a0.out _).trans (((cell_far (p:=⟨a1,_,none⟩) a0.out _).trans (c0.2.1)))))))))))),((cell_far (p:=⟨a1,_,none⟩) a0.out _).trans (((cell_far (p:=⟨a1,_,none⟩) a0.out _).trans (((cell_far (p:=⟨a1,_,none⟩) a0.out _).trans (((cell_far (p:=⟨a1,_,none⟩) a0.out _).trans (((cell_far (p:=⟨a1,_,none⟩) a0.out _).trans (((cell_far (p:=⟨a1,_,none⟩) a0.out _).trans (c0.2.2.1)))))))))))),((cell_far (p:=⟨a1,_,none⟩) a0.out _).trans (((cell_far (p:=⟨a1,_,none⟩) a0.out _).trans (((cell_far (p:=⟨a1,_,none⟩) a0.out _).trans (((cell_far (p:=⟨a1,_,none⟩) a0.out _).trans (((cell_far (p:=⟨a1,_,none⟩) a0.out _).trans (((cell_far (p:=⟨a1,_,none⟩) a0.out _).trans (c0.2.2.2.1)))))))))))),((cell_far (p:=⟨a1,_,none⟩) a0.out _).trans (((cell_far (p:=⟨a1,_,none⟩) a0.out _).trans (((cell_far (p:=⟨a1,_,none⟩) a0.out _).trans (((cell_far (p:=⟨a1,_,none⟩) a0.out _).trans (((cell_far (p:=⟨a1,_,none⟩) a0.out _).trans (((cell_far (p:=⟨a1,_,none⟩) a0.out _).trans (c0.2.2.2.2.1)))))))))))),((cell_far (p:=⟨a1,_,none⟩) a0.out _).trans (((cell_far (p:=⟨a1,_,none⟩) a0.out _).trans (((cell_far (p:=⟨a1,_,none⟩) a0.out _).trans (((cell_far (p:=⟨a1,_,none⟩) a0.out _).trans (((cell_far (p:=⟨a1,_,none⟩) a0.out _).trans (((cell_far (p:=⟨a1,_,none⟩) a0.out _).trans (c0.2.2.2.2.2))))))))))))⟩ (fun c0=>?_);clear hK K;refine done_ (by kernel_rfl) ?_;try go_wp2
        refine bodyPost_ret (results_tc rfl _ _ a1 26 #[.bool b1,.bool b2,.int .i64 ((Qd a2 a3).f0),.int .i64 g9,.int .i64 g1,.slice d2 b5.length d3] (0,0) _ rfl (by (with_reducible repeat (first|apply zzf|apply zzg|apply zze));refine zzi (cs:=#[.bool b1,.bool b2,.int .i64 ((Qd a2 a3).f0),.int .i64 g9,.int .i64 g1,.slice none 0 0]) ?_ 5 _ rfl;refine zzi (cs:=#[.bool b1,.bool b2,.int .i64 ((Qd a2 a3).f0),.int .i64 g9,.int .i64 0,.slice none 0 0]) ?_ 4 _ rfl;refine zzi (cs:=#[.bool b1,.bool b2,.int .i64 ((Qd a2 a3).f0),.int .i64 0,.int .i64 0,.slice none 0 0]) ?_ 3 _ rfl;refine zzi (cs:=#[.bool b1,.bool b2,.int .i64 0,.int .i64 0,.int .i64 0,.slice none 0 0]) ?_ 2 _ rfl;refine zzi (cs:=#[.bool b1,.bool false,.int .i64 0,.int .i64 0,.int .i64 0,.slice none 0 0]) ?_ 1 _ rfl;refine zzi (cs:=#[.bool false,.bool false,.int .i64 0,.int .i64 0,.int .i64 0,.slice none 0 0]) ?_ 0 _ rfl;(with_reducible repeat (first|apply zzf|apply zzg|apply zze));exact a5.out) Try.underlying26 rfl (by kernel_rfl)) rfl ?_;exact ⟨_,_,by first|rfl|(simp [errW_none,errW_some] <;> rfl)|(simp only [← hji52];first|rfl|(simp [errW_none,errW_some] <;> rfl))|(simp [*,errW_none,errW_some] <;> rfl),by (with_reducible repeat (first|apply Kd.R_alloc|apply Kd.R_drewN|apply Kd.R_drew));exact Kd.R_mono (Kd.R_far (p:=⟨a1,5,none⟩) (Kd.R_far (p:=⟨a1,4,none⟩) (Kd.R_far (p:=⟨a1,3,none⟩) (Kd.R_far (p:=⟨a1,2,none⟩) (Kd.R_far (p:=⟨a1,1,none⟩) (Kd.R_far (p:=⟨a1,0,none⟩) (Kd.R_types b6.out a5.out (by decide)) (fun _ hk=>hk.2) (.bool b1)) (fun _ hk=>hk.2) (.bool b2)) (fun _ hk=>hk.2) (.int .i64 ((Qd a2 a3).f0))) (fun _ hk=>hk.2) (.int .i64 g9)) (fun _ hk=>hk.2) (.int .i64 g1)) (fun _ hk=>hk.2) (.slice d2 b5.length d3)) (fun _ hk=>hk.1.1),by (with_reducible repeat (first|apply Kd.N_alloc|apply Kd.N_drewN|apply Kd.N_drew));exact Kd.N_mono (Kd.N_far (p:=⟨a1,5,none⟩) (Kd.N_far (p:=⟨a1,4,none⟩) (Kd.N_far (p:=⟨a1,3,none⟩) (Kd.N_far (p:=⟨a1,2,none⟩) (Kd.N_far (p:=⟨a1,1,none⟩) (Kd.N_far (p:=⟨a1,0,none⟩) (Kd.N_mono a6.out (fun k_ hk=>(⟨hk,hk.2.2.1⟩:_∧k_≠a1))) (fun _ hk=>hk.2) (.bool b1)) (fun _ hk=>hk.2) (.bool b2)) (fun _ hk=>hk.2) (.int .i64 ((Qd a2 a3).f0))) (fun _ hk=>hk.2) (.int .i64 g9)) (fun _ hk=>hk.2) (.int .i64 g1)) (fun _ hk=>hk.2) (.slice d2 b5.length d3)) (fun _ hk=>⟨hk.1.1,hk.1.2.1⟩),by repeat (first|(with_reducible first|exact a8.out|apply Qa.alloc|apply Qa.drewN|apply Qa.drew|apply Qa.set_1|refine Qa.far ?_ b3.out _|refine Qa.far ?_ b8.out _|refine Qa.far ?_ d9.out _)|exact a8.out),by repeat (first|(with_reducible first|exact HB.out|apply zza|apply zzb|apply zzc|refine zzd ?_ (Qa.ge a8.out)|refine zzd ?_ e4.out|refine zzd ?_ e5.out|refine zzd ?_ g3.out)|exact HB.out),by repeat (first|(with_reducible first|exact HK.out|apply KeepBut.set_|apply keep_drewN|apply keep_drew|apply keep_alloc|refine keep_far ?_ h7.out _|refine keep_far ?_ h8.out _|refine keep_far ?_ j2.out _)|exact HK.out)⟩
       ·
        rw [if_neg n2] at H;obtain ⟨q6,q7⟩:=zzY n2;simp only [Option.some.injEq,Prod.mk.injEq] at H;obtain ⟨rfl,rfl,rfl,rfl,rfl,rfl,rfl,rfl⟩:=H;obtain ⟨t2,q3,eo78⟩:=Kd.R_slice b6.out;subst eo78;try go_wp2_with (first|((with_reducible refine gate_callee (f:=50) rfl ?_);refine goesL_ (some 25) rfl rfl Try.func50 (by kernel_rfl) rfl #[.pointer (some ⟨g,0,none⟩),.int .i64 (a2.length:Int)] rfl zzM2 ?_;(with_reducible refine (Qb.calls h0 g b9 g2 (a2.length:Int) a3 g4 w0 _ ?side1 ?side2 m9.out).mono ?_);(case side1=>repeat (first|(with_reducible first|exact a8.out|apply Qa.alloc|apply Qa.drewN|apply Qa.drew|apply Qa.set_1|refine Qa.far ?_ b3.out _|refine Qa.far ?_ b8.out _)|exact a8.out));(case side2=>repeat (first|(with_reducible first|exact HB.out|apply zza|apply zzb|apply zzc|refine zzd ?_ (Qa.ge a8.out)|refine zzd ?_ e4.out|refine zzd ?_ e5.out)|exact HB.out));rintro e W2 ⟨rfl,hi,hb,hk⟩;refine ⟨_,rfl,?_⟩;have c2:=zzm (Kd.R_mono (Kd.R_keep (Qa.apart (show Qa w0 _ g b9 g2 from by repeat (first|(with_reducible first|exact a8.out|apply Qa.alloc|apply Qa.drewN|apply Qa.drew|apply Qa.set_1|refine Qa.far ?_ b3.out _|refine Qa.far ?_ b8.out _)|exact a8.out)) (by (with_reducible repeat (first|apply Kd.R_alloc|apply Kd.R_drewN|apply Kd.R_drew));exact b6.out) (by decide)) hk (fun _ h=>h.2)) (fun _ h=>h.1));have c7:=zzm (Kd.N_mono (Kd.N_keep (Kd.N_mono (ok:=fun k_=>(((w.heap.size≤k_))∧(some k_≠(.slice t2 a2.length q3:Value).ownBlock∧(k_≠a1∧(k_≠a4∧k_≠g))))) (zzN a6.out) (fun k_ hk_=>(⟨hk_,hk_.2.2.2.2⟩:_∧k_≠g))) hk (fun _ h=>h.2)) (fun _ h=>h.1));have c8:=zzm (KeepBut.blk hk (g':=a1) (o:=.cells #[.bool false,.bool false,.int .i64 0,.int .i64 0,.int .i64 0,.slice none 0 0] 26 (0,0)) (zzE a5.out) e7.out (by simp));have c9:=zzm (KeepBut.blk hk (g':=a4) (o:=.cells #[.bool b1,.bool b2,.int .i64 e0,.int .i64 e1,.int .i64 e2,.slice d2 b5.length d3] 26 (0,0)) (zzE a7.out) e6.out (by simp));have d0:=zzm (KeepBut.trans (zzk3 HK) hk (.inl rfl));have d5:=zzm (hb);have d7:=zzm (hi);clear b6 a6 a5 a7 HK HB a8;have b6:=c2;have a6:=c7;have a5:=c8;have a7:=c9;have HK:=d0;have HB:=d5;have a8:=d7;clear c2 c7 c8 c9 d0 d5 d7;(try clear hb);(try clear hb2);(try clear hk);(try clear hi);have h5 : 0≤(a3:Int):=zzt;have h6:a3 < (a2.length:Int):=zzt;obtain ⟨g6,l5,l8,l9,m0⟩:=Rf (Kd.R_reads' b6.out).2.2 a3 h5 h6;cases l5;replace h5:=eq_true h5;replace h6:=eq_true h6)|((with_reducible refine gate_dst (N:=6) rfl ?_);refine box_event ?hg (N:=6) ?hd (cs:=#[.int .i64 0,.int .i64 0,.int .i64 0]) (t:=67) ?hr ?_;(case hd=>rfl);(case hg=>rfl);(case hr=>first|(go_simp;done)|(go_simp;rfl));intro b0 hg W3 hbox hb;have c2:=zzm (Kd.R_below (Kd.R_elderB (by (with_reducible repeat (first|apply Kd.R_alloc|apply Kd.R_drewN|apply Kd.R_drew));exact b6.out) b0 (Nat.le_of_eq hg.symm)) hb);have c7:=zzm (Kd.N_below (Kd.N_elderB (zzN a6.out) b0 (Nat.le_of_eq hg.symm)) hb);have c8:=zzm (zzh (g:=a1) (o:=.cells #[.bool false,.bool false,.int .i64 0,.int .i64 0,.int .i64 0,.slice none 0 0] 26 (0,0)) (zzE a5.out) hb);have c9:=zzm (zzh (g:=a4) (o:=.cells #[.bool b1,.bool b2,.int .i64 e0,.int .i64 e1,.int .i64 e2,.slice d2 b5.length d3] 26 (0,0)) (zzE a7.out) hb);have d0:=zzm (Qa.below (by repeat (first|(with_reducible first|exact a8.out|apply Qa.alloc|apply Qa.drewN|apply Qa.drew|apply Qa.set_1|refine Qa.far ?_ b3.out _|refine Qa.far ?_ b8.out _)|exact a8.out)) hb);have d5:=zzm (KeepBut.trans (zzk3 HK) (KeepBut.of_below hb g none) (.inl rfl));have d7:=zzm (zzp (by repeat (first|(with_reducible first|exact HB.out|apply zza|apply zzb|apply zzc|refine zzd ?_ (Qa.ge a8.out)|refine zzd ?_ e4.out|refine zzd ?_ e5.out)|exact HB.out)) hb);have d8:=zzm (hbox);have j4:=zzm ((by rw [hg];exact (keep_size (w:=w) (g:=g) (row:=none) (zzk3 HK)):w.heap.size≤b0));have j5:=zzm ((Nat.le_trans HW0.out (by rw [hg];exact (keep_size (w:=w) (g:=g) (row:=none) (zzk3 HK)):w.heap.size≤b0):w0.heap.size≤b0));have h2:=zzm ((by rw [hg];exact Nat.ne_of_lt (blk_lt (g:=a1) (o:=.cells #[.bool false,.bool false,.int .i64 0,.int .i64 0,.int .i64 0,.slice none 0 0] 26 (0,0)) (zzE a5.out)):a1≠b0));have h3:=zzm ((by rw [hg];exact Nat.ne_of_gt (blk_lt (g:=a1) (o:=.cells #[.bool false,.bool false,.int .i64 0,.int .i64 0,.int .i64 0,.slice none 0 0] 26 (0,0)) (zzE a5.out)):b0≠a1));have h4:=zzm ((by rw [hg];exact Nat.ne_of_lt (blk_lt (g:=a4) (o:=.cells #[.bool b1,.bool b2,.int .i64 e0,.int .i64 e1,.int .i64 e2,.slice d2 b5.length d3] 26 (0,0)) (zzE a7.out)):a4≠b0));have j6:=zzm ((by rw [hg];exact Nat.ne_of_gt (blk_lt (g:=a4) (o:=.cells #[.bool b1,.bool b2,.int .i64 e0,.int .i64 e1,.int .i64 e2,.slice d2 b5.length d3] 26 (0,0)) (zzE a7.out)):b0≠a4));have j7:=zzm ((by rw [hg];exact Nat.ne_of_lt (Qa.lt (show Qa w0 _ g b9 g4 from by repeat (first|(with_reducible first|exact a8.out|apply Qa.alloc|apply Qa.drewN|apply Qa.drew|apply Qa.set_1|refine Qa.far ?_ b3.out _|refine Qa.far ?_ b8.out _)|exact a8.out))):g≠b0));have j8:=zzm ((by rw [hg];exact Nat.ne_of_gt (Qa.lt (show Qa w0 _ g b9 g4 from by repeat (first|(with_reducible first|exact a8.out|apply Qa.alloc|apply Qa.drewN|apply Qa.drew|apply Qa.set_1|refine Qa.far ?_ b3.out _|refine Qa.far ?_ b8.out _)|exact a8.out))):b0≠g));clear b6 a6 a5 a7 a8 HK HB;have b6:=c2;have a6:=c7;have a5:=c8;have a7:=c9;have a8:=d0;have HK:=d5;have HB:=d7;have b4:=d8;have j2:=j4;have g3:=j5;have b7:=h2;have d6:=h3;have e3:=h4;have d1:=j6;have d9:=j7;have e9:=j8;clear c2 c7 c8 c9 d0 d5 d7 d8 j4 j5 h2 h3 h4 j6 j7 j8 hb hbox hg;have Q3:=d6.out;have Q4:=b7.out;have Q5:=d1.out;have Q6:=e3.out;have Q7:=e9.out;have Q8:=d9.out;obtain ⟨G3,G4,G5,G6,G7,G8⟩:=zzc3 b4.out;have Q9:=a0.out;have R0:=a9.out;have R1:=e6.out;have R2:=b8.out;obtain ⟨G9,H0,H1,H2,H3,H4,H5,H6,H7,H8,H9,I0⟩:=zzc6 a7.out)|((with_reducible refine gate_callee (f:=50) rfl ?_);refine goesL_ (some 38) rfl rfl Try.func50 (by kernel_rfl) rfl #[.pointer (some ⟨g,0,none⟩),.int .i64 6] rfl zzM2 ?_;(with_reducible refine (Qb.calls h0 g b9 g4 6 k1 h9 w0 _ ?side1 ?side2 n0.out).mono ?_);(case side1=>repeat (first|(with_reducible first|exact a8.out|apply Qa.alloc|apply Qa.drewN|apply Qa.drew|apply Qa.set_1|refine Qa.far ?_ b3.out _|refine Qa.far ?_ b8.out _|refine Qa.far ?_ d9.out _)|exact a8.out));(case side2=>repeat (first|(with_reducible first|exact HB.out|apply zza|apply zzb|apply zzc|refine zzd ?_ (Qa.ge a8.out)|refine zzd ?_ e4.out|refine zzd ?_ e5.out|refine zzd ?_ g3.out)|exact HB.out));rintro e L9 ⟨rfl,hi,hb,hk⟩;refine ⟨_,rfl,?_⟩;have c2:=zzm (Kd.R_mono (Kd.R_keep (Qa.apart (show Qa w0 _ g b9 g4 from by repeat (first|(with_reducible first|exact a8.out|apply Qa.alloc|apply Qa.drewN|apply Qa.drew|apply Qa.set_1|refine Qa.far ?_ b3.out _|refine Qa.far ?_ b8.out _|refine Qa.far ?_ d9.out _)|exact a8.out)) (by (with_reducible repeat (first|apply Kd.R_alloc|apply Kd.R_drewN|apply Kd.R_drew));exact (Kd.R_mono (Kd.R_mono (Kd.R_far (p:=⟨a4,4,none⟩) (Kd.R_far (p:=⟨a4,3,none⟩) (Kd.R_far (p:=⟨a4,2,none⟩) (Kd.R_far (p:=⟨b0,2,none⟩) (Kd.R_far (p:=⟨b0,1,none⟩) (Kd.R_far (p:=⟨b0,0,none⟩) (Kd.R_types (Kd.R_mono b6.out (fun k_ hk=>(⟨hk,hk.2⟩:_∧k_≠b0))) a7.out (by decide)) (fun _ hk=>hk.1.2) (.int .i64 ((Qd a2 a3).f0))) (fun _ hk=>hk.1.2) (.int .i64 ((Qd a2 a3).f1))) (fun _ hk=>hk.1.2) (.int .i64 ((Qd a2 a3).f2))) (fun _ hk=>hk.2) (.int .i64 ((Qd a2 a3).f0))) (fun _ hk=>hk.2) (.int .i64 ((Qd a2 a3).f1))) (fun _ hk=>hk.2) (.int .i64 ((Qd a2 a3).f2))) (fun _ h_=>h_.1)) (fun _ h_=>h_.1))) (by decide)) hk (fun _ h=>h.2)) (fun _ h=>h.1));have c7:=zzm (Kd.N_mono (Kd.N_keep (Kd.N_mono (ok:=fun k_=>((((w.heap.size≤k_))∧(some k_≠(.slice (some g6) a2.length q3:Value).ownBlock∧(k_≠a1∧(k_≠a4∧k_≠g))))∧k_≠b0)) (zzN ((Kd.N_mono (Kd.N_mono (Kd.N_far (p:=⟨a4,4,none⟩) (Kd.N_far (p:=⟨a4,3,none⟩) (Kd.N_far (p:=⟨a4,2,none⟩) (Kd.N_far (p:=⟨b0,2,none⟩) (Kd.N_far (p:=⟨b0,1,none⟩) (Kd.N_far (p:=⟨b0,0,none⟩) (Kd.N_mono (Kd.N_mono a6.out (fun k_ hk=>(⟨hk,hk.2⟩:_∧k_≠b0))) (fun k_ hk=>(⟨hk,hk.1.1.2.2.2.1⟩:_∧k_≠a4))) (fun _ hk=>hk.1.2) (.int .i64 ((Qd a2 a3).f0))) (fun _ hk=>hk.1.2) (.int .i64 ((Qd a2 a3).f1))) (fun _ hk=>hk.1.2) (.int .i64 ((Qd a2 a3).f2))) (fun _ hk=>hk.2) (.int .i64 ((Qd a2 a3).f0))) (fun _ hk=>hk.2) (.int .i64 ((Qd a2 a3).f1))) (fun _ hk=>hk.2) (.int .i64 ((Qd a2 a3).f2))) (fun _ h_=>h_.1)) (fun _ h_=>h_.1)))) (fun k_ hk_=>(⟨hk_,hk_.1.2.2.2.2⟩:_∧k_≠g))) hk (fun _ h=>h.2)) (fun _ h=>h.1));have c8:=zzm (KeepBut.blk hk (g':=a1) (o:=.cells #[.bool false,.bool false,.int .i64 0,.int .i64 0,.int .i64 0,.slice none 0 0] 26 (0,0)) (by (with_reducible repeat (first|apply zzf|apply zzg|apply zze));refine zzj ?_ a9.out _;(with_reducible repeat (first|apply zzf|apply zzg|apply zze));refine zzj ?_ a9.out _;(with_reducible repeat (first|apply zzf|apply zzg|apply zze));refine zzj ?_ a9.out _;(with_reducible repeat (first|apply zzf|apply zzg|apply zze));refine zzj ?_ b7.out _;(with_reducible repeat (first|apply zzf|apply zzg|apply zze));refine zzj ?_ b7.out _;(with_reducible repeat (first|apply zzf|apply zzg|apply zze));refine zzj ?_ b7.out _;(with_reducible repeat (first|apply zzf|apply zzg|apply zze));exact a5.out) e7.out (by simp));have c9:=zzm (KeepBut.blk hk (g':=a4) (o:=.cells #[.bool b1,.bool b2,.int .i64 ((Qd a2 a3).f0),.int .i64 ((Qd a2 a3).f1),.int .i64 ((Qd a2 a3).f2),.slice d2 b5.length d3] 26 (0,0)) (by (with_reducible repeat (first|apply zzf|apply zzg|apply zze));refine zzi (cs:=#[.bool b1,.bool b2,.int .i64 ((Qd a2 a3).f0),.int .i64 ((Qd a2 a3).f1),.int .i64 e2,.slice d2 b5.length d3]) ?_ 4 _ rfl;refine zzi (cs:=#[.bool b1,.bool b2,.int .i64 ((Qd a2 a3).f0),.int .i64 e1,.int .i64 e2,.slice d2 b5.length d3]) ?_ 3 _ rfl;refine zzi (cs:=#[.bool b1,.bool b2,.int .i64 e0,.int .i64 e1,.int .i64 e2,.slice d2 b5.length d3]) ?_ 2 _ rfl;(with_reducible repeat (first|apply zzf|apply zzg|apply zze));refine zzj ?_ e3.out _;(with_reducible repeat (first|apply zzf|apply zzg|apply zze));refine zzj ?_ e3.out _;(with_reducible repeat (first|apply zzf|apply zzg|apply zze));refine zzj ?_ e3.out _;(with_reducible repeat (first|apply zzf|apply zzg|apply zze));exact a7.out) e6.out (by simp));have d0:=zzm (KeepBut.blk hk (g':=b0) (o:=.cells #[.int .i64 ((Qd a2 a3).f0),.int .i64 ((Qd a2 a3).f1),.int .i64 ((Qd a2 a3).f2)] 67 (0,0)) (by (with_reducible repeat (first|apply zzf|apply zzg|apply zze));refine zzj ?_ d1.out _;(with_reducible repeat (first|apply zzf|apply zzg|apply zze));refine zzj ?_ d1.out _;(with_reducible repeat (first|apply zzf|apply zzg|apply zze));refine zzj ?_ d1.out _;(with_reducible repeat (first|apply zzf|apply zzg|apply zze));refine zzi (cs:=#[.int .i64 ((Qd a2 a3).f0),.int .i64 ((Qd a2 a3).f1),.int .i64 0]) ?_ 2 _ rfl;refine zzi (cs:=#[.int .i64 ((Qd a2 a3).f0),.int .i64 0,.int .i64 0]) ?_ 1 _ rfl;refine zzi (cs:=#[.int .i64 0,.int .i64 0,.int .i64 0]) ?_ 0 _ rfl;(with_reducible repeat (first|apply zzf|apply zzg|apply zze));exact b4.out) e9.out (by simp));have d5:=zzm (KeepBut.trans (zzk3 HK) hk (.inl rfl));have d7:=zzm (hb);have d8:=zzm (hi);clear b6 a6 a5 a7 b4 HK HB a8;have b6:=c2;have a6:=c7;have a5:=c8;have a7:=c9;have b4:=d0;have HK:=d5;have HB:=d7;have a8:=d8;clear c2 c7 c8 c9 d0 d5 d7 d8;(try clear hb);(try clear hb2);(try clear hk);(try clear hi)))
        have c2:=zzm (Kd.R_drew b6.out);have c7:=zzm (Kd.N_drew a6.out);have c8:=zzm (zzg a5.out);have c9:=zzm (zzg a7.out);have d0:=zzm (zzg b4.out);have d5:=zzm (Qa.drew a8.out);have d7:=zzm (keep_drew HK.out);have d8:=zzm (zzc HB.out);clear b6 a6 a5 a7 b4 a8 HK HB;have b6:=c2;have a6:=c7;have a5:=c8;have a7:=c9;have b4:=d0;have a8:=d5;have HK:=d7;have HB:=d8;clear c2 c7 c8 c9 d0 d5 d7 d8;refine start_ (n:=4) (S:=fun w'=>w'.cell? ⟨a4,0,none⟩=some (.bool b1)∧w'.cell? ⟨a4,1,none⟩=some (.bool b2)∧w'.cell? ⟨a4,2,none⟩=some (.int .i64 ((Qd a2 a3).f0))∧w'.cell? ⟨a4,3,none⟩=some (.int .i64 ((Qd a2 a3).f1))∧w'.cell? ⟨a4,4,none⟩=some (.int .i64 ((Qd a2 a3).f2))∧w'.cell? ⟨a4,5,none⟩=some (.slice d2 b5.length d3)) (ds:=[]) #[false,false,false,false] (by kernel_rfl) rfl rfl ⟨(zzk a7.out 0).trans rfl,(zzk a7.out 1).trans rfl,(zzk a7.out 2).trans rfl,(zzk a7.out 3).trans rfl,(zzk a7.out 4).trans rfl,(zzk a7.out 5).trans rfl⟩ (fun c0=>?_);generalize L9.drew=m3 at b6 a6 a5 a7 b4 a8 HK HB c0 ⊢;refine pure_ (i:=0) (N:=some 62) (v:=?_) (a':=?_) #[true,false,false,false] rfl rfl (by kernel_rfl) (fun _ _ _ h=>h) (Or.inl ⟨by rfl,?_⟩) ?_ ?_;rotate_left
        ·
         intro w';go_simp;with_reducible rfl
        rotate_left
        ·
         simp only [zzJ];rfl
        refine pure_ (i:=2) (N:=some 2) (v:=?_) (a':=?_) #[true,false,true,false] rfl rfl (by kernel_rfl) (fun _ _ _ h=>h) (Or.inl ⟨by rfl,?_⟩) ?_ ?_;rotate_left
        ·
         intro w';go_simp;with_reducible rfl
        rotate_left
        ·
         simp only [zzJ];rfl
        refine take_ (i:=1) (N:=some 63) (v:=?_) (a':=?_) #[true,true,true,false] rfl rfl (by kernel_rfl) (fun _ _ _ h=>h) (Or.inl ⟨by rfl,?_⟩) c0 ?_ ?_;rotate_left
        ·
         rintro w' ⟨s0,s1,s2,s3,s4,s5⟩;go_simp;with_reducible rfl
        rotate_left
        ·
         simp only [zzJ];rfl
        refine one_ (i:=3) (N:=none) #[true,true,true,true] rfl rfl (by kernel_rfl) (by decide) (fun K hK=>?_);have U3:m3.cell? ⟨a1,0,none⟩=some (.bool false):=(zzk a5.out 0).trans rfl;have R3:=zzl a5.out 0;have I1:=a0.out;have I2:=d6.out;have I3:=a9.out;have I4:=b7.out;have U4:m3.cell? ⟨a1,1,none⟩=some (.bool false):=(zzk a5.out 1).trans rfl;have R4:=zzl a5.out 1;have I5:=a0.out;have I6:=d6.out;have I7:=a9.out;have I8:=b7.out;have U5:m3.cell? ⟨a1,2,none⟩=some (.int .i64 0):=(zzk a5.out 2).trans rfl;have R5:=zzl a5.out 2;have I9:=a0.out;have J0:=d6.out;have J1:=a9.out;have J2:=b7.out;have U6:m3.cell? ⟨a1,3,none⟩=some (.int .i64 0):=(zzk a5.out 3).trans rfl;have R6:=zzl a5.out 3;have J3:=a0.out;have J4:=d6.out;have J5:=a9.out;have J6:=b7.out;have U7:m3.cell? ⟨a1,4,none⟩=some (.int .i64 0):=(zzk a5.out 4).trans rfl;have R7:=zzl a5.out 4;have J7:=a0.out;have J8:=d6.out;have J9:=a9.out;have K0:=b7.out;have U8:m3.cell? ⟨a1,5,none⟩=some (.slice none 0 0):=(zzk a5.out 5).trans rfl;have R8:=zzl a5.out 5;have K1:=a0.out;have K2:=d6.out;have K3:=a9.out;have K4:=b7.out;refine skip_ (w1:=?_) (by rfl) rfl ?_ ?_;rotate_left
        ·
         go_simp;rfl
        refine hK.out _ _ ⟨((cell_far (p:=⟨a1,_,none⟩) a0.out _).trans (((cell_far (p:=⟨a1,_,none⟩) a0.out _).trans (((cell_far (p:=⟨a1,_,none⟩) a0.out _).trans (((cell_far (p:=⟨a1,_,none⟩) a0.out _).trans (((cell_far (p:=⟨a1,_,none⟩) a0.out _).trans (((cell_far (p:=⟨a1,_,none⟩) a0.out _).trans (c0.1)))))))))))),((cell_far (p:=⟨a1,_,none⟩) a0.out _).trans (((cell_far (p:=⟨a1,_,none⟩) a0.out _).trans (((cell_far (p:=⟨a1,_,none⟩) a0.out _).trans (((cell_far (p:=⟨a1,_,none⟩) a0.out _).trans (((cell_far (p:=⟨a1,_,none⟩) a0.out _).trans (((cell_far (p:=⟨a1,_,none⟩) a0.out _).trans (c0.2.1)))))))))))),((cell_far (p:=⟨a1,_,none⟩) a0.out _).trans (((cell_far (p:=⟨a1,_,none⟩) a0.out _).trans (((cell_far (p:=⟨a1,_,none⟩) a0.out _).trans (((cell_far (p:=⟨a1,_,none⟩) a0.out _).trans (((cell_far (p:=⟨a1,_,none⟩) a0.out _).trans (((cell_far (p:=⟨a1,_,none⟩) a0.out _).trans (c0.2.2.1)))))))))))),((cell_far (p:=⟨a1,_,none⟩) a0.out _).trans (((cell_far (p:=⟨a1,_,none⟩) a0.out _).trans (((cell_far (p:=⟨a1,_,none⟩) a0.out _).trans (((cell_far (p:=⟨a1,_,none⟩) a0.out _).trans (((cell_far (p:=⟨a1,_,none⟩) a0.out _).trans (((cell_far (p:=⟨a1,_,none⟩) a0.out _).trans (c0.2.2.2.1)))))))))))),((cell_far (p:=⟨a1,_,none⟩) a0.out _).trans (((cell_far (p:=⟨a1,_,none⟩) a0.out _).trans (((cell_far (p:=⟨a1,_,none⟩) a0.out _).trans (((cell_far (p:=⟨a1,_,none⟩) a0.out _).trans (((cell_far (p:=⟨a1,_,none⟩) a0.out _).trans (((cell_far (p:=⟨a1,_,none⟩) a0.out _).trans (c0.2.2.2.2.1)))))))))))),((cell_far (p:=⟨a1,_,none⟩) a0.out _).trans (((cell_far (p:=⟨a1,_,none⟩) a0.out _).trans (((cell_far (p:=⟨a1,_,none⟩) a0.out _).trans (((cell_far (p:=⟨a1,_,none⟩) a0.out _).trans (((cell_far (p:=⟨a1,_,none⟩) a0.out _).trans (((cell_far (p:=⟨a1,_,none⟩) a0.out _).trans (c0.2.2.2.2.2))))))))))))⟩ (fun c0=>?_);clear hK K;refine done_ (by kernel_rfl) ?_;try go_wp2
        refine bodyPost_ret (results_tc rfl _ _ a1 26 #[.bool b1,.bool b2,.int .i64 ((Qd a2 a3).f0),.int .i64 ((Qd a2 a3).f1),.int .i64 ((Qd a2 a3).f2),.slice d2 b5.length d3] (0,0) _ rfl (by (with_reducible repeat (first|apply zzf|apply zzg|apply zze));refine zzi (cs:=#[.bool b1,.bool b2,.int .i64 ((Qd a2 a3).f0),.int .i64 ((Qd a2 a3).f1),.int .i64 ((Qd a2 a3).f2),.slice none 0 0]) ?_ 5 _ rfl;refine zzi (cs:=#[.bool b1,.bool b2,.int .i64 ((Qd a2 a3).f0),.int .i64 ((Qd a2 a3).f1),.int .i64 0,.slice none 0 0]) ?_ 4 _ rfl;refine zzi (cs:=#[.bool b1,.bool b2,.int .i64 ((Qd a2 a3).f0),.int .i64 0,.int .i64 0,.slice none 0 0]) ?_ 3 _ rfl;refine zzi (cs:=#[.bool b1,.bool b2,.int .i64 0,.int .i64 0,.int .i64 0,.slice none 0 0]) ?_ 2 _ rfl;refine zzi (cs:=#[.bool b1,.bool false,.int .i64 0,.int .i64 0,.int .i64 0,.slice none 0 0]) ?_ 1 _ rfl;refine zzi (cs:=#[.bool false,.bool false,.int .i64 0,.int .i64 0,.int .i64 0,.slice none 0 0]) ?_ 0 _ rfl;(with_reducible repeat (first|apply zzf|apply zzg|apply zze));exact a5.out) Try.underlying26 rfl (by kernel_rfl)) rfl ?_;exact ⟨_,_,zzR,by (with_reducible repeat (first|apply Kd.R_alloc|apply Kd.R_drewN|apply Kd.R_drew));exact Kd.R_mono (Kd.R_far (p:=⟨a1,5,none⟩) (Kd.R_far (p:=⟨a1,4,none⟩) (Kd.R_far (p:=⟨a1,3,none⟩) (Kd.R_far (p:=⟨a1,2,none⟩) (Kd.R_far (p:=⟨a1,1,none⟩) (Kd.R_far (p:=⟨a1,0,none⟩) (Kd.R_types b6.out a5.out (by decide)) (fun _ hk=>hk.2) (.bool b1)) (fun _ hk=>hk.2) (.bool b2)) (fun _ hk=>hk.2) (.int .i64 ((Qd a2 a3).f0))) (fun _ hk=>hk.2) (.int .i64 ((Qd a2 a3).f1))) (fun _ hk=>hk.2) (.int .i64 ((Qd a2 a3).f2))) (fun _ hk=>hk.2) (.slice d2 b5.length d3)) (fun _ hk=>hk.1.1),by (with_reducible repeat (first|apply Kd.N_alloc|apply Kd.N_drewN|apply Kd.N_drew));exact Kd.N_mono (Kd.N_far (p:=⟨a1,5,none⟩) (Kd.N_far (p:=⟨a1,4,none⟩) (Kd.N_far (p:=⟨a1,3,none⟩) (Kd.N_far (p:=⟨a1,2,none⟩) (Kd.N_far (p:=⟨a1,1,none⟩) (Kd.N_far (p:=⟨a1,0,none⟩) (Kd.N_mono a6.out (fun k_ hk=>(⟨hk,hk.1.2.2.1⟩:_∧k_≠a1))) (fun _ hk=>hk.2) (.bool b1)) (fun _ hk=>hk.2) (.bool b2)) (fun _ hk=>hk.2) (.int .i64 ((Qd a2 a3).f0))) (fun _ hk=>hk.2) (.int .i64 ((Qd a2 a3).f1))) (fun _ hk=>hk.2) (.int .i64 ((Qd a2 a3).f2))) (fun _ hk=>hk.2) (.slice d2 b5.length d3)) (fun _ hk=>⟨hk.1.1.1,hk.1.1.2.1⟩),by repeat (first|(with_reducible first|exact a8.out|apply Qa.alloc|apply Qa.drewN|apply Qa.drew|apply Qa.set_1|refine Qa.far ?_ b3.out _|refine Qa.far ?_ b8.out _|refine Qa.far ?_ d9.out _)|exact a8.out),by repeat (first|(with_reducible first|exact HB.out|apply zza|apply zzb|apply zzc|refine zzd ?_ (Qa.ge a8.out)|refine zzd ?_ e4.out|refine zzd ?_ e5.out|refine zzd ?_ g3.out)|exact HB.out),by repeat (first|(with_reducible first|exact HK.out|apply KeepBut.set_|apply keep_drewN|apply keep_drew|apply keep_alloc|refine keep_far ?_ h7.out _|refine keep_far ?_ h8.out _|refine keep_far ?_ j2.out _)|exact HK.out)⟩
     ·
      rw [if_neg o0] at H;exact absurd H (by simp)
    ·
     rw [if_neg n9] at H;exact absurd H (by simp)
   ·
    replace n8:=Bool.eq_false_iff.mpr n8;subst n8;replace H:=zzIf H;simp only [Option.some.injEq,Prod.mk.injEq] at H;obtain ⟨rfl,rfl,rfl,rfl,rfl,rfl,rfl,rfl⟩:=H;try go_wp2
    have c2:=zzm (Kd.R_drew b6.out);have c7:=zzm (Kd.N_drew a6.out);have c8:=zzm (zzg a5.out);have c9:=zzm (zzg a7.out);have d0:=zzm (Qa.drew a8.out);have d5:=zzm (keep_drew HK.out);have d7:=zzm (zzc HB.out);clear b6 a6 a5 a7 a8 HK HB;have b6:=c2;have a6:=c7;have a5:=c8;have a7:=c9;have a8:=d0;have HK:=d5;have HB:=d7;clear c2 c7 c8 c9 d0 d5 d7;refine start_ (n:=4) (S:=fun w'=>w'.cell? ⟨a4,0,none⟩=some (.bool b1)∧w'.cell? ⟨a4,1,none⟩=some (.bool b2)∧w'.cell? ⟨a4,2,none⟩=some (.int .i64 e0)∧w'.cell? ⟨a4,3,none⟩=some (.int .i64 e1)∧w'.cell? ⟨a4,4,none⟩=some (.int .i64 e2)∧w'.cell? ⟨a4,5,none⟩=some (.slice d2 b5.length d3)) (ds:=[]) #[false,false,false,false] (by kernel_rfl) rfl rfl ⟨(zzk a7.out 0).trans rfl,(zzk a7.out 1).trans rfl,(zzk a7.out 2).trans rfl,(zzk a7.out 3).trans rfl,(zzk a7.out 4).trans rfl,(zzk a7.out 5).trans rfl⟩ (fun c0=>?_);generalize wc.drew=m4 at b6 a6 a5 a7 a8 HK HB c0 ⊢;refine pure_ (i:=0) (N:=some 62) (v:=?_) (a':=?_) #[true,false,false,false] rfl rfl (by kernel_rfl) (fun _ _ _ h=>h) (Or.inl ⟨by rfl,?_⟩) ?_ ?_;rotate_left
    ·
     intro w';go_simp;with_reducible rfl
    rotate_left
    ·
     simp only [zzJ];rfl
    refine pure_ (i:=2) (N:=some 2) (v:=?_) (a':=?_) #[true,false,true,false] rfl rfl (by kernel_rfl) (fun _ _ _ h=>h) (Or.inl ⟨by rfl,?_⟩) ?_ ?_;rotate_left
    ·
     intro w';go_simp;with_reducible rfl
    rotate_left
    ·
     simp only [zzJ];rfl
    refine take_ (i:=1) (N:=some 63) (v:=?_) (a':=?_) #[true,true,true,false] rfl rfl (by kernel_rfl) (fun _ _ _ h=>h) (Or.inl ⟨by rfl,?_⟩) c0 ?_ ?_;rotate_left
    ·
     rintro w' ⟨s0,s1,s2,s3,s4,s5⟩;go_simp;with_reducible rfl
    rotate_left
    ·
     simp only [zzJ];rfl
    refine one_ (i:=3) (N:=none) #[true,true,true,true] rfl rfl (by kernel_rfl) (by decide) (fun K hK=>?_);have U9:m4.cell? ⟨a1,0,none⟩=some (.bool false):=(zzk a5.out 0).trans rfl;have R9:=zzl a5.out 0;have K5:=a0.out;have K6:=a9.out;have V0:m4.cell? ⟨a1,1,none⟩=some (.bool false):=(zzk a5.out 1).trans rfl;have S0:=zzl a5.out 1;have K7:=a0.out;have K8:=a9.out;have V1:m4.cell? ⟨a1,2,none⟩=some (.int .i64 0):=(zzk a5.out 2).trans rfl;have S1:=zzl a5.out 2;have K9:=a0.out;have L0:=a9.out;have S2:m4.cell? ⟨a1,3,none⟩=some (.int .i64 0):=(zzk a5.out 3).trans rfl;have M0:=zzl a5.out 3;have t3:=a0.out;have t4:=a9.out;have S3:m4.cell? ⟨a1,4,none⟩=some (.int .i64 0):=(zzk a5.out 4).trans rfl;have M1:=zzl a5.out 4;have t5:=a0.out;have t6:=a9.out;have S4:m4.cell? ⟨a1,5,none⟩=some (.slice none 0 0):=(zzk a5.out 5).trans rfl;have M2:=zzl a5.out 5;have t7:=a0.out;have t8:=a9.out;refine skip_ (w1:=?_) (by rfl) rfl ?_ ?_;rotate_left
    ·
     go_simp;rfl
    refine hK.out _ _ ⟨((cell_far (p:=⟨a1,_,none⟩) a0.out _).trans (((cell_far (p:=⟨a1,_,none⟩) a0.out _).trans (((cell_far (p:=⟨a1,_,none⟩) a0.out _).trans (((cell_far (p:=⟨a1,_,none⟩) a0.out _).trans (((cell_far (p:=⟨a1,_,none⟩) a0.out _).trans (((cell_far (p:=⟨a1,_,none⟩) a0.out _).trans (c0.1)))))))))))),((cell_far (p:=⟨a1,_,none⟩) a0.out _).trans (((cell_far (p:=⟨a1,_,none⟩) a0.out _).trans (((cell_far (p:=⟨a1,_,none⟩) a0.out _).trans (((cell_far (p:=⟨a1,_,none⟩) a0.out _).trans (((cell_far (p:=⟨a1,_,none⟩) a0.out _).trans (((cell_far (p:=⟨a1,_,none⟩) a0.out _).trans (c0.2.1)))))))))))),((cell_far (p:=⟨a1,_,none⟩) a0.out _).trans (((cell_far (p:=⟨a1,_,none⟩) a0.out _).trans (((cell_far (p:=⟨a1,_,none⟩) a0.out _).trans (((cell_far (p:=⟨a1,_,none⟩) a0.out _).trans (((cell_far (p:=⟨a1,_,none⟩) a0.out _).trans (((cell_far (p:=⟨a1,_,none⟩) a0.out _).trans (c0.2.2.1)))))))))))),((cell_far (p:=⟨a1,_,none⟩) a0.out _).trans (((cell_far (p:=⟨a1,_,none⟩) a0.out _).trans (((cell_far (p:=⟨a1,_,none⟩) a0.out _).trans (((cell_far (p:=⟨a1,_,none⟩) a0.out _).trans (((cell_far (p:=⟨a1,_,none⟩) a0.out _).trans (((cell_far (p:=⟨a1,_,none⟩) a0.out _).trans (c0.2.2.2.1)))))))))))),((cell_far (p:=⟨a1,_,none⟩) a0.out _).trans (((cell_far (p:=⟨a1,_,none⟩) a0.out _).trans (((cell_far (p:=⟨a1,_,none⟩) a0.out _).trans (((cell_far (p:=⟨a1,_,none⟩) a0.out _).trans (((cell_far (p:=⟨a1,_,none⟩) a0.out _).trans (((cell_far (p:=⟨a1,_,none⟩) a0.out _).trans (c0.2.2.2.2.1)))))))))))),((cell_far (p:=⟨a1,_,none⟩) a0.out _).trans (((cell_far (p:=⟨a1,_,none⟩) a0.out _).trans (((cell_far (p:=⟨a1,_,none⟩) a0.out _).trans (((cell_far (p:=⟨a1,_,none⟩) a0.out _).trans (((cell_far (p:=⟨a1,_,none⟩) a0.out _).trans (((cell_far (p:=⟨a1,_,none⟩) a0.out _).trans (c0.2.2.2.2.2))))))))))))⟩ (fun c0=>?_);clear hK K;refine done_ (by kernel_rfl) ?_;try go_wp2
    refine bodyPost_ret (results_tc rfl _ _ a1 26 #[.bool b1,.bool b2,.int .i64 e0,.int .i64 e1,.int .i64 e2,.slice d2 b5.length d3] (0,0) _ rfl (by (with_reducible repeat (first|apply zzf|apply zzg|apply zze));refine zzi (cs:=#[.bool b1,.bool b2,.int .i64 e0,.int .i64 e1,.int .i64 e2,.slice none 0 0]) ?_ 5 _ rfl;refine zzi (cs:=#[.bool b1,.bool b2,.int .i64 e0,.int .i64 e1,.int .i64 0,.slice none 0 0]) ?_ 4 _ rfl;refine zzi (cs:=#[.bool b1,.bool b2,.int .i64 e0,.int .i64 0,.int .i64 0,.slice none 0 0]) ?_ 3 _ rfl;refine zzi (cs:=#[.bool b1,.bool b2,.int .i64 0,.int .i64 0,.int .i64 0,.slice none 0 0]) ?_ 2 _ rfl;refine zzi (cs:=#[.bool b1,.bool false,.int .i64 0,.int .i64 0,.int .i64 0,.slice none 0 0]) ?_ 1 _ rfl;refine zzi (cs:=#[.bool false,.bool false,.int .i64 0,.int .i64 0,.int .i64 0,.slice none 0 0]) ?_ 0 _ rfl;(with_reducible repeat (first|apply zzf|apply zzg|apply zze));exact a5.out) Try.underlying26 rfl (by kernel_rfl)) rfl ?_;exact ⟨_,_,zzR,by (with_reducible repeat (first|apply Kd.R_alloc|apply Kd.R_drewN|apply Kd.R_drew));exact Kd.R_mono (Kd.R_far (p:=⟨a1,5,none⟩) (Kd.R_far (p:=⟨a1,4,none⟩) (Kd.R_far (p:=⟨a1,3,none⟩) (Kd.R_far (p:=⟨a1,2,none⟩) (Kd.R_far (p:=⟨a1,1,none⟩) (Kd.R_far (p:=⟨a1,0,none⟩) (Kd.R_types b6.out a5.out (by decide)) (fun _ hk=>hk.2) (.bool b1)) (fun _ hk=>hk.2) (.bool b2)) (fun _ hk=>hk.2) (.int .i64 e0)) (fun _ hk=>hk.2) (.int .i64 e1)) (fun _ hk=>hk.2) (.int .i64 e2)) (fun _ hk=>hk.2) (.slice d2 b5.length d3)) (fun _ hk=>hk.1),by (with_reducible repeat (first|apply Kd.N_alloc|apply Kd.N_drewN|apply Kd.N_drew));exact Kd.N_mono (Kd.N_far (p:=⟨a1,5,none⟩) (Kd.N_far (p:=⟨a1,4,none⟩) (Kd.N_far (p:=⟨a1,3,none⟩) (Kd.N_far (p:=⟨a1,2,none⟩) (Kd.N_far (p:=⟨a1,1,none⟩) (Kd.N_far (p:=⟨a1,0,none⟩) (Kd.N_mono a6.out (fun k_ hk=>(⟨hk,hk.2.2.1⟩:_∧k_≠a1))) (fun _ hk=>hk.2) (.bool b1)) (fun _ hk=>hk.2) (.bool b2)) (fun _ hk=>hk.2) (.int .i64 e0)) (fun _ hk=>hk.2) (.int .i64 e1)) (fun _ hk=>hk.2) (.int .i64 e2)) (fun _ hk=>hk.2) (.slice d2 b5.length d3)) (fun _ hk=>⟨hk.1.1,hk.1.2.1⟩),by repeat (first|(with_reducible first|exact a8.out|apply Qa.alloc|apply Qa.drewN|apply Qa.drew|apply Qa.set_1|refine Qa.far ?_ b3.out _|refine Qa.far ?_ b8.out _)|exact a8.out),by repeat (first|(with_reducible first|exact HB.out|apply zza|apply zzb|apply zzc|refine zzd ?_ (Qa.ge a8.out)|refine zzd ?_ e4.out|refine zzd ?_ e5.out)|exact HB.out),by repeat (first|(with_reducible first|exact HK.out|apply KeepBut.set_|apply keep_drewN|apply keep_drew|apply keep_alloc|refine keep_far ?_ h7.out _|refine keep_far ?_ h8.out _)|exact HK.out)⟩
def Rj.f (l0:List Int):Option (List Int×Int):=if (l0.length:Int) > 2000 then (if 2000≤(l0.length:Int) then (some (l0.take 2000,0)) else (none)) else (some (l0,0))
set_option maxHeartbeats 8000000 in
theorem Rj.calls (A0:Option Addr) (c0:Nat) (l0:List Int) (r1:List Int) (r2:Int) (w0 w:World) (hB:Below w0.heap.size w0 w) (b5:Kd.C (Kd.int .u8) w0 A0 l0.length l0) (b6:l0.length≤c0) (h:Rj.f l0=some (r1,r2)) :
  Calls Try.prog 31 #[.slice A0 l0.length c0] w fun e w'=>∃ g_:Nat,e = .returned (.pointer (some ⟨g_,0,none⟩))∧Qa w0 w' g_ r1 r2∧Below w0.heap.size w0 w'∧Below w.heap.size w w':=by
 have hu88:=Try.underlying88;have b7:=zzm b5;have c1:=zzm b6;clear b5 b6;have HBW:=zzm (Below.refl w.heap.size w);have HW0:=zzm hB.size;have HB:=zzm hB;clear hB;have H:(if (l0.length:Int) > 2000 then (if 2000≤(l0.length:Int) then (some (l0.take 2000,0)) else (none)) else (some (l0,0)))=some (r1,r2):=h;clear h;by_cases c2:(l0.length:Int) > 2000
 ·
  rw [if_pos c2] at H;have b8:decide (2000 < (l0.length:Int))=true:=decide_eq_true c2;have b9:decide (2000 < l0.length)=true:=decide_eq_true (by omega);clear c2;by_cases c3 : 2000≤(l0.length:Int)
  ·
   rw [if_pos c3] at H;have c5:=eq_true c3;have c7:decide (2000≤(l0.length:Int))=true:=decide_eq_true c3;clear c3;simp only [Option.some.injEq,Prod.mk.injEq] at H;obtain ⟨rfl,rfl⟩:=H;obtain ⟨i04,a7,_,hsz4,_⟩:=info_parts info5;obtain ⟨hcut4,hA4,hC4⟩:=print_take_of (P:=Try.prog) (Value.int .u8) 0 22 5 .i64 Try.underlying22 a7 hsz4 A0 c0 l0 2000 (by omega) (zzt) c1.out;have a8:=zzm (Kd.C_of_reads (h1:=fun _=>rfl) (hA4 _ (Kd.reads_of_C b7.out)));have c4:=zzm hC4;clear hA4 hC4 a7 hsz4;go_enter Try.func31,Try.ntmps31;go_wp2_with (first|((with_reducible refine gate_dst (N:=10) rfl ?_);refine box_event ?hg (N:=10) ?hd (cs:=#[.slice A0 (l0.take 2000).length c0,.int .i64 0]) (t:=88) ?hr ?_;(case hd=>rfl);(case hg=>rfl);(case hr=>first|(go_simp;done)|(go_simp;rfl));intro a0 hg w5 hbox hb;have a2:=zzm (zzp HBW.out hb);have a3:=zzm (zzp zzh1 hb);have a4:=zzm (hbox);have a5:=zzm ((by rw [hg];exact (zzo (by repeat (first|(with_reducible first|exact HBW.out|apply zza|apply zzb|apply zzc)|exact HBW.out))):w.heap.size≤a0));have a6:=zzm ((Nat.le_trans HW0.out (by rw [hg];exact (zzo (by repeat (first|(with_reducible first|exact HBW.out|apply zza|apply zzb|apply zzc)|exact HBW.out))):w.heap.size≤a0):w0.heap.size≤a0));clear HBW HB;have HBW:=a2;have HB:=a3;have a9:=a4;have b0:=a5;have b1:=a6;clear a2 a3 a4 a5 a6 hb hbox hg));go_ret;exact ⟨_,rfl,(show Qa w0 _ a0 (l0.take 2000) 0 from ⟨_,_,zzE a9.out,b1.out,a8.out⟩),zzh3,by repeat (first|(with_reducible first|exact HBW.out|apply zza|apply zzb|apply zzc|refine zzd ?_ b0.out)|exact HBW.out)⟩
  ·
   rw [if_neg c3] at H;exact absurd H (by simp)
 ·
  rw [if_neg c2] at H;have b8:decide (2000 < (l0.length:Int))=false:=decide_eq_false c2;have b9:decide (2000 < l0.length)=false:=decide_eq_false (by omega);clear c2;simp only [Option.some.injEq,Prod.mk.injEq] at H;obtain ⟨rfl,rfl⟩:=H;go_enter Try.func31,Try.ntmps31;go_wp2_with (first|((with_reducible refine gate_dst (N:=10) rfl ?_);refine box_event ?hg (N:=10) ?hd (cs:=#[.slice A0 l0.length c0,.int .i64 0]) (t:=88) ?hr ?_;(case hd=>rfl);(case hg=>rfl);(case hr=>first|(go_simp;done)|(go_simp;rfl));intro a1 hg w6 hbox hb;have a2:=zzm (zzp HBW.out hb);have a3:=zzm (zzp zzh1 hb);have a4:=zzm (hbox);have a5:=zzm ((by rw [hg];exact (zzo (by repeat (first|(with_reducible first|exact HBW.out|apply zza|apply zzb|apply zzc)|exact HBW.out))):w.heap.size≤a1));have a6:=zzm ((Nat.le_trans HW0.out (by rw [hg];exact (zzo (by repeat (first|(with_reducible first|exact HBW.out|apply zza|apply zzb|apply zzc)|exact HBW.out))):w.heap.size≤a1):w0.heap.size≤a1));clear HBW HB;have HBW:=a2;have HB:=a3;have b2:=a4;have b3:=a5;have b4:=a6;clear a2 a3 a4 a5 a6 hb hbox hg));go_ret;exact ⟨_,rfl,(show Qa w0 _ a1 l0 0 from ⟨_,_,zzE b2.out,b4.out,b7.out⟩),zzh3,by repeat (first|(with_reducible first|exact HBW.out|apply zza|apply zzb|apply zzc|refine zzd ?_ b3.out)|exact HBW.out)⟩
def Qy.f (k:Nat) (l0:List Int):Option ((List (S67))×Bool×Bool×Int×Int×Int×(List (S75))):=(Rj.f l0).bind fun bt267=>((Qf.f k bt267.1 bt267.2).bind fun bt270=>(some (bt270.1,bt270.2.1,bt270.2.2.1,bt270.2.2.2.1,bt270.2.2.2.2.1,bt270.2.2.2.2.2.1,bt270.2.2.2.2.2.2.1)))
set_option maxHeartbeats 8000000 in
theorem Qy.calls (k:Nat) (A0:Option Addr) (c0:Nat) (l0:List Int) (r1:List (S67)) (r2:Bool) (r3:Bool) (r4:Int) (r5:Int) (r6:Int) (r7:List (S75)) (w:World) (d0:Kd.C (Kd.int .u8) w A0 l0.length l0) (d1:l0.length≤c0) (h:Qy.f k l0=some (r1,r2,r3,r4,r5,r6,r7)) :
  Calls Try.prog 6 #[.slice A0 l0.length c0] w fun e w'=>∃ c4 d2:Value,e = .returned (.tuple #[c4,.agg #[.bool r2,.bool r3,.int .i64 r4,.int .i64 r5,.int .i64 r6,d2]])∧Kd.R k67 67 w' w.heap.size (fun k_=>(w.heap.size≤k_)) c4 r1∧Kd.N k75 75 w' w.heap.size (fun k_=>(w.heap.size≤k_)∧some k_≠(c4:Value).ownBlock) d2 r7∧Below w.heap.size w w':=by
 have hu26:=Try.underlying26;have d7:=zzm d0;have d8:=zzm d1;clear d0 d1;have HB:=zzm (Below.refl w.heap.size w);have H:((Rj.f l0).bind fun c2=>((Qf.f k c2.1 c2.2).bind fun a1=>(some (a1.1,a1.2.1,a1.2.2.1,a1.2.2.2.1,a1.2.2.2.2.1,a1.2.2.2.2.2.1,a1.2.2.2.2.2.2.1))))=some (r1,r2,r3,r4,r5,r6,r7):=h;clear h;replace H:=zzH H;obtain ⟨⟨b8,b9⟩,d3,H⟩:=H;replace H:((Qf.f k b8 b9).bind fun a1=>(some (a1.1,a1.2.1,a1.2.2.1,a1.2.2.2.1,a1.2.2.2.2.1,a1.2.2.2.2.2.1,a1.2.2.2.2.2.2.1)))=some (r1,r2,r3,r4,r5,r6,r7):=H;have A2:=zzm d3;clear d3;replace H:=zzH H;obtain ⟨⟨c5,a4,a5,a7,a9,b0,b6,d5⟩,d4,H⟩:=H;replace H:(some (c5,a4,a5,a7,a9,b0,b6))=some (r1,r2,r3,r4,r5,r6,r7):=H;have A3:=zzm d4;clear d4;simp only [Option.some.injEq,Prod.mk.injEq] at H;obtain ⟨rfl,rfl,rfl,rfl,rfl,rfl,rfl⟩:=H;go_enter Try.func6,Try.ntmps6;go_wp2_with (first|((with_reducible refine gate_dst (N:=3) rfl ?_);refine box_event ?hg (N:=3) ?hd (cs:=#[.bool false,.bool false,.int .i64 0,.int .i64 0,.int .i64 0,.slice none 0 0]) (t:=26) ?hr ?_;(case hd=>rfl);(case hg=>rfl);(case hr=>first|(go_simp;done)|(go_simp;rfl));intro a0 hg w4 hbox hb;have b1:=zzm (zzp zzh1 hb);have b2:=zzm (hbox);have b3:=zzm ((by rw [hg];exact (zzo zzh1):w.heap.size≤a0));have b4:=zzm ((by rw [hg];exact (zzo zzh1):w.heap.size≤a0));clear HB;have HB:=b1;have a2:=b2;have g1:=b3;have a6:=b4;clear b1 b2 b3 b4 hb hbox hg)|((with_reducible refine gate_callee (f:=31) rfl ?_);refine goesL_ (some 5) rfl rfl Try.func31 (by kernel_rfl) rfl #[.slice A0 l0.length c0] rfl zzM2 ?_;(with_reducible refine (Rj.calls _ _ l0 b8 b9 w _ ?side1 ?side2 ?side3 A2.out).mono ?_);(case side1=>repeat (first|(with_reducible first|exact HB.out|apply zza|apply zzb|apply zzc|refine zzd ?_ a6.out)|exact HB.out));(case side2=>exact d7.out);(case side3=>exact d8.out);rintro e w5 ⟨c1,rfl,hi,hb,hb2⟩;refine ⟨_,rfl,?_⟩;have b1:=zzm (zzh (g:=a0) (o:=.cells #[.bool false,.bool false,.int .i64 0,.int .i64 0,.int .i64 0,.slice none 0 0] 26 (0,0)) (zzE a2.out) hb2);have b2:=zzm (hb);have b3:=zzm (hi);have b4:=zzm (Qa.ne_blk hi (zzh (g:=a0) (o:=.cells #[.bool false,.bool false,.int .i64 0,.int .i64 0,.int .i64 0,.slice none 0 0] 26 (0,0)) (zzE a2.out) hb2) (by decide));have b7:=zzm (Ne.symm (Qa.ne_blk hi (zzh (g:=a0) (o:=.cells #[.bool false,.bool false,.int .i64 0,.int .i64 0,.int .i64 0,.slice none 0 0] 26 (0,0)) (zzE a2.out) hb2) (by decide)));clear a2 HB;have a2:=b1;have HB:=b2;have a3:=b3;have a8:=b4;have b5:=b7;clear b1 b2 b3 b4 b7;(try clear hb);(try clear hb2);(try clear hk);(try clear hi))|((with_reducible refine gate_callee (f:=30) rfl ?_);refine goesL_ (some 6) rfl rfl Try.func30 (by kernel_rfl) rfl #[.pointer (some ⟨c1,0,none⟩)] rfl zzM2 ?_;(with_reducible refine (Qf.calls k c1 b8 b9 c5 a4 a5 a7 a9 b0 b6 d5 w _ ?side1 ?side2 A3.out).mono ?_);(case side1=>repeat (first|(with_reducible first|exact a3.out|apply Qa.alloc|apply Qa.drewN|apply Qa.drew|apply Qa.set_1|refine Qa.far ?_ a8.out _)|exact a3.out));(case side2=>repeat (first|(with_reducible first|exact HB.out|apply zza|apply zzb|apply zzc|refine zzd ?_ (Qa.ge a3.out)|refine zzd ?_ a6.out)|exact HB.out));rintro e w6 ⟨d6,g2,rfl,ho0,ho1,hi,hb,hk⟩;refine ⟨_,rfl,?_⟩;have b1:=zzm (KeepBut.blk hk (g':=a0) (o:=.cells #[.bool false,.bool false,.int .i64 0,.int .i64 0,.int .i64 0,.slice none 0 0] 26 (0,0)) (zzE a2.out) b5.out (by simp));have b2:=zzm (Kd.R_lower (Kd.R_newM (M:=fun k_=>(w.heap.size≤k_)) (Kd.R_mono (ok':=fun k_=>True) ho0 (fun _ hk_=>trivial)) (zzo (by repeat (first|(with_reducible first|exact HB.out|apply zza|apply zzb|apply zzc|refine zzd ?_ (Qa.ge a3.out)|refine zzd ?_ a6.out)|exact HB.out))) (fun k_ h_=>h_)) (zzo (by repeat (first|(with_reducible first|exact HB.out|apply zza|apply zzb|apply zzc|refine zzd ?_ (Qa.ge a3.out)|refine zzd ?_ a6.out)|exact HB.out))));have b3:=zzm (Kd.N_lower (Kd.N_mono (ok':=fun k_=>(w.heap.size≤k_)∧some k_≠(d6:Value).ownBlock∧k_≠a0∧k_≠c1) ho1 (fun k_ hk_=>⟨(Nat.le_trans (zzo (by repeat (first|(with_reducible first|exact HB.out|apply zza|apply zzb|apply zzc|refine zzd ?_ (Qa.ge a3.out)|refine zzd ?_ a6.out)|exact HB.out))) hk_.1),hk_.2,(Kd.freshB (g:=a0) (o:=.cells #[.bool false,.bool false,.int .i64 0,.int .i64 0,.int .i64 0,.slice none 0 0] 26 (0,0)) (zzE a2.out) k_ hk_.1),(Qa.fresh (by repeat (first|(with_reducible first|exact a3.out|apply Qa.alloc|apply Qa.drewN|apply Qa.drew|apply Qa.set_1|refine Qa.far ?_ a8.out _)|exact a3.out)) k_ hk_.1)⟩)) (zzo (by repeat (first|(with_reducible first|exact HB.out|apply zza|apply zzb|apply zzc|refine zzd ?_ (Qa.ge a3.out)|refine zzd ?_ a6.out)|exact HB.out))));have b4:=zzm (hb);have b7:=zzm (hi);clear a2 HB a3;have a2:=b1;have c9:=b2;have c3:=b3;have HB:=b4;have a3:=b7;clear b1 b2 b3 b4 b7;(try clear hb);(try clear hb2);(try clear hk);(try clear hi);(try clear ho0);(try clear ho1);have g3:=b5.out;have g4:=a8.out;obtain ⟨d9,e0,e1,e2,e3,e4,e5,e6,e7,e8,e9,g0⟩:=zzc6 a2.out;obtain ⟨c7,c8,eo9⟩:=Kd.N_slice c3.out;subst eo9));refine bodyPost_ret (results_tc rfl _ _ a0 26 #[.bool a4,.bool a5,.int .i64 a7,.int .i64 a9,.int .i64 b0,.slice c7 b6.length c8] (0,0) _ rfl (by (with_reducible repeat (first|apply zzf|apply zzg|apply zze));refine zzi (cs:=#[.bool a4,.bool a5,.int .i64 a7,.int .i64 a9,.int .i64 b0,.slice none 0 0]) ?_ 5 _ rfl;refine zzi (cs:=#[.bool a4,.bool a5,.int .i64 a7,.int .i64 a9,.int .i64 0,.slice none 0 0]) ?_ 4 _ rfl;refine zzi (cs:=#[.bool a4,.bool a5,.int .i64 a7,.int .i64 0,.int .i64 0,.slice none 0 0]) ?_ 3 _ rfl;refine zzi (cs:=#[.bool a4,.bool a5,.int .i64 0,.int .i64 0,.int .i64 0,.slice none 0 0]) ?_ 2 _ rfl;refine zzi (cs:=#[.bool a4,.bool false,.int .i64 0,.int .i64 0,.int .i64 0,.slice none 0 0]) ?_ 1 _ rfl;refine zzi (cs:=#[.bool false,.bool false,.int .i64 0,.int .i64 0,.int .i64 0,.slice none 0 0]) ?_ 0 _ rfl;(with_reducible repeat (first|apply zzf|apply zzg|apply zze));exact a2.out) Try.underlying26 rfl (by kernel_rfl)) rfl ?_;exact ⟨_,_,zzR,by (with_reducible repeat (first|apply Kd.R_alloc|apply Kd.R_drewN|apply Kd.R_drew));exact Kd.R_mono (Kd.R_far (p:=⟨a0,5,none⟩) (Kd.R_far (p:=⟨a0,4,none⟩) (Kd.R_far (p:=⟨a0,3,none⟩) (Kd.R_far (p:=⟨a0,2,none⟩) (Kd.R_far (p:=⟨a0,1,none⟩) (Kd.R_far (p:=⟨a0,0,none⟩) (Kd.R_types c9.out a2.out (by decide)) (fun _ hk=>hk.2) (.bool a4)) (fun _ hk=>hk.2) (.bool a5)) (fun _ hk=>hk.2) (.int .i64 a7)) (fun _ hk=>hk.2) (.int .i64 a9)) (fun _ hk=>hk.2) (.int .i64 b0)) (fun _ hk=>hk.2) (.slice c7 b6.length c8)) (fun _ hk=>hk.1.1),by (with_reducible repeat (first|apply Kd.N_alloc|apply Kd.N_drewN|apply Kd.N_drew));exact Kd.N_mono (Kd.N_far (p:=⟨a0,5,none⟩) (Kd.N_far (p:=⟨a0,4,none⟩) (Kd.N_far (p:=⟨a0,3,none⟩) (Kd.N_far (p:=⟨a0,2,none⟩) (Kd.N_far (p:=⟨a0,1,none⟩) (Kd.N_far (p:=⟨a0,0,none⟩) (Kd.N_mono c3.out (fun k_ hk=>(⟨hk,hk.2.2.1⟩:_∧k_≠a0))) (fun _ hk=>hk.2) (.bool a4)) (fun _ hk=>hk.2) (.bool a5)) (fun _ hk=>hk.2) (.int .i64 a7)) (fun _ hk=>hk.2) (.int .i64 a9)) (fun _ hk=>hk.2) (.int .i64 b0)) (fun _ hk=>hk.2) (.slice c7 b6.length c8)) (fun _ hk=>⟨hk.1.1,hk.1.2.1⟩),by repeat (first|(with_reducible first|exact HB.out|apply zza|apply zzb|apply zzc|refine zzd ?_ (Qa.ge a3.out)|refine zzd ?_ a6.out)|exact HB.out)⟩
def Qp.f (a0:Int) (a1:Int) (a2:Int):Option (Bool):=if a0 ≥ a1 then (some (decide (a0≤a2))) else (some false)
set_option maxHeartbeats 8000000 in
theorem Qp.calls (a0:Int) (a1:Int) (a2:Int) (r:Bool) (w:World) (h:Qp.f a0 a1 a2=some r) :
  Calls Try.prog 40 #[.int .i64 a0,.int .i64 a1,.int .i64 a2] w fun e w'=>e = .returned (.bool r)∧Drawn0 w w':=by
 have H:(if a0 ≥ a1 then (some (decide (a0≤a2))) else (some false))=some r:=h;clear h;by_cases c4:a0 ≥ a1
 ·
  rw [if_pos c4] at H;have c4b0:decide (a1≤a0)=true:=decide_eq_true c4;clear c4;obtain rfl:=Option.some.inj H;go_enter Try.func40,Try.ntmps40;go_wp2;go_ret;exact ⟨by first|rfl|(simp;done)|(simp [*];done),by repeat (first|exact Drawn0.refl _|apply Drawn0.step)⟩
 ·
  rw [if_neg c4] at H;have c4b0:decide (a1≤a0)=false:=decide_eq_false c4;clear c4;obtain rfl:=Option.some.inj H;go_enter Try.func40,Try.ntmps40;go_wp2;go_ret;exact ⟨by first|rfl|(simp;done)|(simp [*];done),by repeat (first|exact Drawn0.refl _|apply Drawn0.step)⟩
def Qv.f (a0:Int):Option (Bool):=(Qp.f a0 0 254).bind fun t282=>(some t282)
set_option maxHeartbeats 8000000 in
theorem Qv.calls (a0:Int) (r:Bool) (w:World) (h:Qv.f a0=some r) :
  Calls Try.prog 39 #[.int .i64 a0] w fun e w'=>e = .returned (.bool r)∧Drawn0 w w':=by
 have H:((Qp.f a0 0 254).bind fun a1=>(some a1))=some r:=h;clear h;obtain ⟨a1,A2,H⟩:=zzG H;obtain rfl:=Option.some.inj H;go_enter Try.func39,Try.ntmps39;go_wp2_with (first|((with_reducible refine gate_callee (f:=40) rfl ?_);refine goesL_ (some 4) rfl rfl Try.func40 (by kernel_rfl) rfl #[.int .i64 a0,.int .i64 0,.int .i64 254] rfl zzM2 ?_;(with_reducible refine (Qp.calls a0 0 254 a1 _ A2.out).mono ?_);rintro e w' ⟨rfl,⟨nd,rfl⟩⟩;refine ⟨_,rfl,?_⟩));go_ret;exact ⟨by first|rfl|(simp;done)|(simp [*];done),by repeat (first|exact Drawn0.refl _|apply Drawn0.step)⟩
def Rh.f (a0:Int) (a1:Int):Option (Bool):=(Qp.f a0 0 99999).bind fun t283=>(if t283=true then ((Qp.f a1 0 99999).bind fun t284=>(some t284)) else (some false))
set_option maxHeartbeats 8000000 in
theorem Rh.calls (a0:Int) (a1:Int) (r:Bool) (w:World) (h:Rh.f a0 a1=some r) :
  Calls Try.prog 54 #[.int .i64 a0,.int .i64 a1] w fun e w'=>e = .returned (.bool r)∧Drawn0 w w':=by
 have H:((Qp.f a0 0 99999).bind fun a2=>(if a2=true then ((Qp.f a1 0 99999).bind fun a3=>(some a3)) else (some false)))=some r:=h;clear h;obtain ⟨a2,A3,H⟩:=zzG H;by_cases c4:a2=true
 ·
  subst c4;replace H:=zzIt H;obtain ⟨a3,A5,H⟩:=zzG H;obtain rfl:=Option.some.inj H;go_enter Try.func54,Try.ntmps54;go_wp2_with (first|((with_reducible refine gate_callee (f:=40) rfl ?_);refine goesL_ (some 6) rfl rfl Try.func40 (by kernel_rfl) rfl #[.int .i64 a0,.int .i64 0,.int .i64 99999] rfl zzM2 ?_;(with_reducible refine (Qp.calls a0 0 99999 true _ A3.out).mono ?_);rintro e w' ⟨rfl,⟨nd,rfl⟩⟩;refine ⟨_,rfl,?_⟩)|(go_at_call 40;(with_reducible refine (Qp.calls a1 0 99999 a3 _ A5.out).mono ?_);rintro e w' ⟨rfl,⟨nd,rfl⟩⟩));go_ret;exact ⟨by first|rfl|(simp;done)|(simp [*];done),by repeat (first|exact Drawn0.refl _|apply Drawn0.step)⟩
 ·
  replace c4:=Bool.eq_false_iff.mpr c4;subst c4;replace H:=zzIf H;obtain rfl:=Option.some.inj H;go_enter Try.func54,Try.ntmps54;go_wp2_with (first|((with_reducible refine gate_callee (f:=40) rfl ?_);refine goesL_ (some 6) rfl rfl Try.func40 (by kernel_rfl) rfl #[.int .i64 a0,.int .i64 0,.int .i64 99999] rfl zzM2 ?_;(with_reducible refine (Qp.calls a0 0 99999 false _ A3.out).mono ?_);rintro e w' ⟨rfl,⟨nd,rfl⟩⟩;refine ⟨_,rfl,?_⟩));go_ret;exact ⟨by first|rfl|(simp;done)|(simp [*];done),by repeat (first|exact Drawn0.refl _|apply Drawn0.step)⟩
def Rk.f (a0:Int):Option (Bool):=if a0 ≥ 0 then (some (decide (a0≤255))) else (some false)
set_option maxHeartbeats 8000000 in
theorem Rk.calls (a0:Int) (r:Bool) (w:World) (h:Rk.f a0=some r) :
  Calls Try.prog 67 #[.int .i64 a0] w fun e w'=>e = .returned (.bool r)∧Drawn0 w w':=by
 have H:(if a0 ≥ 0 then (some (decide (a0≤255))) else (some false))=some r:=h;clear h;by_cases c2:a0 ≥ 0
 ·
  rw [if_pos c2] at H;have c2b0:decide (0≤a0)=true:=decide_eq_true c2;clear c2;obtain rfl:=Option.some.inj H;go_enter Try.func67,Try.ntmps67;go_wp2;go_ret;exact ⟨by first|rfl|(simp;done)|(simp [*];done),by repeat (first|exact Drawn0.refl _|apply Drawn0.step)⟩
 ·
  rw [if_neg c2] at H;have c2b0:decide (0≤a0)=false:=decide_eq_false c2;clear c2;obtain rfl:=Option.some.inj H;go_enter Try.func67,Try.ntmps67;go_wp2;go_ret;exact ⟨by first|rfl|(simp;done)|(simp [*];done),by repeat (first|exact Drawn0.refl _|apply Drawn0.step)⟩
def Qu.l0:Nat→List Int→Int→Int→Option (Bool)
 | 0,_,_,_=>none
 | k+1,x5,x6,x7=>if x7 < x6 then (if 0≤x7 then (if x7 < (x5.length:Int) then ((Rk.f (rd x5 x7)).bind fun t286=>(if t286=true then (Qu.l0 k x5 x6 (wrap64 (x7+1))) else (some false))) else (none)) else (none)) else (some true)
def Qu.f (k:Nat) (l0:List Int):Option (Bool):=Qu.l0 k l0 (l0.length:Int) 0
set_option maxHeartbeats 8000000 in
theorem Qu.calls (k:Nat) (A0:Option Addr) (c0:Nat) (l0:List Int) (r:Bool) (w:World) (a6:Kd.C (Kd.int .i64) w A0 l0.length l0) (a7:l0.length≤c0) (h:Qu.f k l0=some r) :
  Calls Try.prog 62 #[.slice A0 l0.length c0] w fun e w'=>e = .returned (.bool r)∧Drawn0 w w':=by
 have a8:=zzm a6;have b3:=zzm a7;clear a6 a7;have H:(Qu.l0 k l0 (l0.length:Int) 0)=some r:=h;clear h;have H':=zzm H;clear H;go_enter Try.func62,Try.ntmps62;go_wp2;go_loopg [7] k (fun kq v7 w'=>∃ (a0:Int),v7 = .int .i64 a0∧Aside0 (Qu.l0 kq l0 (l0.length:Int) a0=some r)∧Aside0 (kq≤k)∧Drawn0 w w')
 case atStart=>exact ⟨(0),(by first|rfl|(simp;done)|(simp [*];done)),H',⟨Nat.le_refl _⟩,by repeat (first|exact Drawn0.refl _|apply Drawn0.step)⟩
 case round=>
  clear H';obtain ⟨a0,rfl,HA,HK1,⟨m1,rfl⟩⟩:=hrel;cases gk with
  | zero=>exact absurd HA.out (by simp [Qu.l0])
  | succ k1=>
   have H:=HA.out;clear HA;simp only [Qu.l0] at H;by_cases c2:a0 < (l0.length:Int)
   ·
    rw [if_pos c2] at H;have a9:decide (a0 < (l0.length:Int))=true:=decide_eq_true c2;clear c2;by_cases c3 : 0≤a0
    ·
     rw [if_pos c3] at H;have b1:decide (0≤a0)=true:=decide_eq_true c3;clear c3;by_cases c4:a0 < (l0.length:Int)
     ·
      rw [if_pos c4] at H;have b2:decide (a0 < (l0.length:Int))=true:=decide_eq_true c4;clear c4;obtain ⟨b0,A5,H⟩:=zzG H;by_cases c6:b0=true
      ·
       subst c6;replace H:=zzIt H;have H':=zzm H;clear H;have a1 : 0≤(a0:Int):=zzt;have a2:a0 < (l0.length:Int):=zzt;obtain ⟨a5,a3,a4⟩:=Kd.at_int a8.out a0 a1 a2;cases a3;replace a1:=eq_true a1;replace a2:=eq_true a2;go_wp2_with (first|((with_reducible refine gate_callee (f:=67) rfl ?_);refine goesL_ (some 12) rfl rfl Try.func67 (by kernel_rfl) rfl #[.int .i64 (rd l0 a0)] rfl zzM2 ?_;(with_reducible refine (Rk.calls (rd l0 a0) true _ A5.out).mono ?_);rintro e w' ⟨rfl,⟨nd,rfl⟩⟩;refine ⟨_,rfl,?_⟩));go_roundg k1
       case measure=>have:=HK1.out;omega
       case rel=>exact ⟨(wrap64 (a0+1)),(by first|rfl|(simp;done)|(simp [*];done)),H',⟨by have:=HK1.out;omega⟩,by repeat (first|exact Drawn0.refl _|apply Drawn0.step)⟩
      ·
       replace c6:=Bool.eq_false_iff.mpr c6;subst c6;replace H:=zzIf H;obtain rfl:=Option.some.inj H;have a1 : 0≤(a0:Int):=zzt;have a2:a0 < (l0.length:Int):=zzt;obtain ⟨a5,a3,a4⟩:=Kd.at_int a8.out a0 a1 a2;cases a3;replace a1:=eq_true a1;replace a2:=eq_true a2;go_wp2_with (first|((with_reducible refine gate_callee (f:=67) rfl ?_);refine goesL_ (some 12) rfl rfl Try.func67 (by kernel_rfl) rfl #[.int .i64 (rd l0 a0)] rfl zzM2 ?_;(with_reducible refine (Rk.calls (rd l0 a0) false _ A5.out).mono ?_);rintro e w' ⟨rfl,⟨nd,rfl⟩⟩;refine ⟨_,rfl,?_⟩));go_ret;exact ⟨by first|rfl|(simp;done)|(simp [*];done),by repeat (first|exact Drawn0.refl _|apply Drawn0.step)⟩
     ·
      rw [if_neg c4] at H;exact absurd H (by simp)
    ·
     rw [if_neg c3] at H;exact absurd H (by simp)
   ·
    rw [if_neg c2] at H;have a9:decide (a0 < (l0.length:Int))=false:=decide_eq_false c2;clear c2;obtain rfl:=Option.some.inj H;go_wp2;go_ret;exact ⟨by first|rfl|(simp;done)|(simp [*];done),by repeat (first|exact Drawn0.refl _|apply Drawn0.step)⟩
def Rb.f (k:Nat) (a0:Bool) (l1:List Int):Option (Bool):=if a0=true then (if (l1.length:Int)≤12 then ((Qu.f k l1).bind fun t287=>(some t287)) else (some false)) else (some ((l1.length:Int)==0))
set_option maxHeartbeats 8000000 in
theorem Rb.calls (k:Nat) (a0:Bool) (A1:Option Addr) (c1:Nat) (l1:List Int) (r:Bool) (w:World) (a2:Kd.C (Kd.int .i64) w A1 l1.length l1) (a3:l1.length≤c1) (h:Rb.f k a0 l1=some r) :
  Calls Try.prog 55 #[.bool a0,.slice A1 l1.length c1] w fun e w'=>e = .returned (.bool r)∧Drawn0 w w':=by
 have a6:=zzm a2;have a7:=zzm a3;clear a2 a3;have H:(if a0=true then (if (l1.length:Int)≤12 then ((Qu.f k l1).bind fun a1=>(some a1)) else (some false)) else (some ((l1.length:Int)==0)))=some r:=h;clear h;by_cases c3:a0=true
 ·
  subst c3;replace H:=zzIt H;by_cases c4:(l1.length:Int)≤12
  ·
   rw [if_pos c4] at H;have a4:decide ((l1.length:Int)≤12)=true:=decide_eq_true c4;have a5:decide (l1.length≤12)=true:=decide_eq_true (by omega);clear c4;obtain ⟨a1,A5,H⟩:=zzG H;obtain rfl:=Option.some.inj H;go_enter Try.func55,Try.ntmps55;go_wp2_with (first|(go_at_call 62;(with_reducible refine (Qu.calls k _ _ l1 a1 _ ?side1 ?side2 A5.out).mono ?_);(case side1=>repeat (first|exact a6.out|(with_reducible refine Kd.C_alloc ?_ _)|(with_reducible refine Kd.C_drewN ?_ _)|(with_reducible refine Kd.C_drew ?_)));(case side2=>exact a7.out);rintro e w' ⟨rfl,⟨nd,rfl⟩⟩));go_ret;exact ⟨by first|rfl|(simp;done)|(simp [*];done),by repeat (first|exact Drawn0.refl _|apply Drawn0.step)⟩
  ·
   rw [if_neg c4] at H;have a4:decide ((l1.length:Int)≤12)=false:=decide_eq_false c4;have a5:decide (l1.length≤12)=false:=decide_eq_false (by omega);clear c4;obtain rfl:=Option.some.inj H;go_enter Try.func55,Try.ntmps55;go_wp2;go_ret;exact ⟨by first|rfl|(simp;done)|(simp [*];done),by repeat (first|exact Drawn0.refl _|apply Drawn0.step)⟩
 ·
  replace c3:=Bool.eq_false_iff.mpr c3;subst c3;replace H:=zzIf H;obtain rfl:=Option.some.inj H;go_enter Try.func55,Try.ntmps55;go_wp2;go_ret;exact ⟨by first|rfl|(simp;done)|(simp [*];done),by repeat (first|exact Drawn0.refl _|apply Drawn0.step)⟩
def Rd.f (k:Nat) (a0_0:Int) (a0_1:Int) (a0_2:Bool) (l0_3:List Int) (a0_4:Bool) (l0_5:List Int):Option (Bool):=(Rh.f a0_0 a0_1).bind fun t289=>(if t289=true then ((Rb.f k a0_2 l0_3).bind fun t290=>(if t290=true then ((Rb.f k a0_4 l0_5).bind fun t291=>(some t291)) else (some false))) else (some false))
set_option maxHeartbeats 8000000 in
theorem Rd.calls (k:Nat) (a0:Int) (a1:Int) (a5:Bool) (b2:Option Addr) (b3:Nat) (a2:List Int) (a6:Bool) (b4:Option Addr) (b5:Nat) (a4:List Int) (r:Bool) (w:World) (b9:Kd.C (Kd.int .i64) w b2 a2.length a2) (c0:a2.length≤b3) (c1:Kd.C (Kd.int .i64) w b4 a4.length a4) (c2:a4.length≤b5) (h:Rd.f k a0 a1 a5 a2 a6 a4=some r) :
  Calls Try.prog 41 #[.agg #[.int .i64 a0,.int .i64 a1,.bool a5,.slice b2 a2.length b3,.bool a6,.slice b4 a4.length b5]] w fun e w'=>e = .returned (.bool r)∧Below w.heap.size w w':=by
 have hu75:=Try.underlying75;have c4:=zzm b9;have c7:=zzm c0;clear b9 c0;have d0:=zzm c1;have d1:=zzm c2;clear c1 c2;have HB:=zzm (Below.refl w.heap.size w);have H:((Rh.f a0 a1).bind fun b6=>(if b6=true then ((Rb.f k a5 a2).bind fun b7=>(if b7=true then ((Rb.f k a6 a4).bind fun b8=>(some b8)) else (some false))) else (some false)))=some r:=h;clear h;obtain ⟨b6,A2,H⟩:=zzG H;by_cases c3:b6=true
 ·
  subst c3;replace H:=zzIt H;obtain ⟨b7,A4,H⟩:=zzG H;by_cases c5:b7=true
  ·
   subst c5;replace H:=zzIt H;obtain ⟨b8,A6,H⟩:=zzG H;obtain rfl:=Option.some.inj H;go_enter Try.func41,Try.ntmps41;go_wp2_with (first|((with_reducible refine gate_dst (N:=1) rfl ?_);refine box_event ?hg (N:=1) ?hd (cs:=#[.int .i64 a0,.int .i64 a1,.bool a5,.slice b2 a2.length b3,.bool a6,.slice b4 a4.length b5]) (t:=75) ?hr ?_;(case hd=>rfl);(case hg=>rfl);(case hr=>first|(go_simp;done)|(go_simp;rfl));intro a3 hg w7 hbox hb;have a8:=zzm (zzp zzh1 hb);have a9:=zzm (hbox);have b0:=zzm ((by rw [hg];exact (zzo zzh1):w.heap.size≤a3));have b1:=zzm ((by rw [hg];exact (zzo zzh1):w.heap.size≤a3));clear HB;have HB:=a8;have a7:=a9;have c8:=b0;have c9:=b1;clear a8 a9 b0 b1 hb hbox hg;obtain ⟨g6,g7,g8,g9,h0,h1,h2,h3,h4,h5,h6,h7⟩:=zzc6 a7.out)|((with_reducible refine gate_callee (f:=54) rfl ?_);refine goesL_ (some 7) rfl rfl Try.func54 (by kernel_rfl) rfl #[.int .i64 a0,.int .i64 a1] rfl zzM2 ?_;(with_reducible refine (Rh.calls a0 a1 true _ A2.out).mono ?_);rintro e w' ⟨rfl,⟨nd,rfl⟩⟩;refine ⟨_,rfl,?_⟩)|(go_at_call 55;(with_reducible refine (Rb.calls k a5 _ _ a2 true _ ?side1 ?side2 A4.out).mono ?_);(case side1=>repeat (first|exact (Kd.C_below c4.out zzh2)|(with_reducible refine Kd.C_alloc ?_ _)|(with_reducible refine Kd.C_drewN ?_ _)|(with_reducible refine Kd.C_drew ?_)));(case side2=>exact c7.out);rintro e w' ⟨rfl,⟨nd,rfl⟩⟩)|(go_at_call 55;(with_reducible refine (Rb.calls k a6 _ _ a4 b8 _ ?side1 ?side2 A6.out).mono ?_);(case side1=>repeat (first|exact (Kd.C_below d0.out zzh2)|(with_reducible refine Kd.C_alloc ?_ _)|(with_reducible refine Kd.C_drewN ?_ _)|(with_reducible refine Kd.C_drew ?_)));(case side2=>exact d1.out);rintro e w' ⟨rfl,⟨nd,rfl⟩⟩));go_ret;exact ⟨zzR,zzh3⟩
  ·
   replace c5:=Bool.eq_false_iff.mpr c5;subst c5;replace H:=zzIf H;obtain rfl:=Option.some.inj H;go_enter Try.func41,Try.ntmps41;go_wp2_with (first|((with_reducible refine gate_dst (N:=1) rfl ?_);refine box_event ?hg (N:=1) ?hd (cs:=#[.int .i64 a0,.int .i64 a1,.bool a5,.slice b2 a2.length b3,.bool a6,.slice b4 a4.length b5]) (t:=75) ?hr ?_;(case hd=>rfl);(case hg=>rfl);(case hr=>first|(go_simp;done)|(go_simp;rfl));intro a3 hg w9 hbox hb;have a8:=zzm (zzp zzh1 hb);have a9:=zzm (hbox);have b0:=zzm ((by rw [hg];exact (zzo zzh1):w.heap.size≤a3));have b1:=zzm ((by rw [hg];exact (zzo zzh1):w.heap.size≤a3));clear HB;have HB:=a8;have a7:=a9;have c8:=b0;have c9:=b1;clear a8 a9 b0 b1 hb hbox hg;obtain ⟨d2,d3,d4,d5,d6,d7,d8,d9,e0,e1,e2,e3⟩:=zzc6 a7.out)|((with_reducible refine gate_callee (f:=54) rfl ?_);refine goesL_ (some 7) rfl rfl Try.func54 (by kernel_rfl) rfl #[.int .i64 a0,.int .i64 a1] rfl zzM2 ?_;(with_reducible refine (Rh.calls a0 a1 true _ A2.out).mono ?_);rintro e w' ⟨rfl,⟨nd,rfl⟩⟩;refine ⟨_,rfl,?_⟩)|(go_at_call 55;(with_reducible refine (Rb.calls k a5 _ _ a2 false _ ?side1 ?side2 A4.out).mono ?_);(case side1=>repeat (first|exact (Kd.C_below c4.out zzh2)|(with_reducible refine Kd.C_alloc ?_ _)|(with_reducible refine Kd.C_drewN ?_ _)|(with_reducible refine Kd.C_drew ?_)));(case side2=>exact c7.out);rintro e w' ⟨rfl,⟨nd,rfl⟩⟩));go_ret;exact ⟨zzR,zzh3⟩
 ·
  replace c3:=Bool.eq_false_iff.mpr c3;subst c3;replace H:=zzIf H;obtain rfl:=Option.some.inj H;go_enter Try.func41,Try.ntmps41;go_wp2_with (first|((with_reducible refine gate_dst (N:=1) rfl ?_);refine box_event ?hg (N:=1) ?hd (cs:=#[.int .i64 a0,.int .i64 a1,.bool a5,.slice b2 a2.length b3,.bool a6,.slice b4 a4.length b5]) (t:=75) ?hr ?_;(case hd=>rfl);(case hg=>rfl);(case hr=>first|(go_simp;done)|(go_simp;rfl));intro a3 hg h8 hbox hb;have a8:=zzm (zzp zzh1 hb);have a9:=zzm (hbox);have b0:=zzm ((by rw [hg];exact (zzo zzh1):w.heap.size≤a3));have b1:=zzm ((by rw [hg];exact (zzo zzh1):w.heap.size≤a3));clear HB;have HB:=a8;have a7:=a9;have c8:=b0;have c9:=b1;clear a8 a9 b0 b1 hb hbox hg;obtain ⟨e4,e5,e6,e7,e8,e9,g0,g1,g2,g3,g4,g5⟩:=zzc6 a7.out)|((with_reducible refine gate_callee (f:=54) rfl ?_);refine goesL_ (some 7) rfl rfl Try.func54 (by kernel_rfl) rfl #[.int .i64 a0,.int .i64 a1] rfl zzM2 ?_;(with_reducible refine (Rh.calls a0 a1 false _ A2.out).mono ?_);rintro e w' ⟨rfl,⟨nd,rfl⟩⟩;refine ⟨_,rfl,?_⟩));go_ret;exact ⟨zzR,zzh3⟩
mutual
def Qe.j0:Nat→Bool→Bool→Int→Int→Int→List (S75)→Option (Bool)
 | 0,_,_,_,_,_,_=>none
 | k+1,x293000,x293001,x293002,x293003,x293004,x293005=>(Qp.f (x293005.length:Int) 1 6).bind fun t296=>(if t296=true then (if x293001=true then (Qe.j1 k ((x293005.length:Int) != 1) x293000 x293001 x293002 x293003 x293004 x293005) else (Qe.j1 k false x293000 x293001 x293002 x293003 x293004 x293005)) else (Qe.j1 k true x293000 x293001 x293002 x293003 x293004 x293005))
def Qe.j1:Nat→Bool→Bool→Bool→Int→Int→Int→List (S75)→Option (Bool)
 | 0,_,_,_,_,_,_,_=>none
 | k+1,x50,x293000,x293001,x293002,x293003,x293004,x293005=>if x50=true then (some false) else (Qe.l0 k x293005 (x293005.length:Int) 0 x293000 x293001 x293002 x293003 x293004 x293005)
def Qe.l0:Nat→List (S75)→Int→Int→Bool→Bool→Int→Int→Int→List (S75)→Option (Bool)
 | 0,_,_,_,_,_,_,_,_,_=>none
 | k+1,x52,x53,x54,x293000,x293001,x293002,x293003,x293004,x293005=>if x54 < x53 then (if 0≤x54 then (if x54 < (x52.length:Int) then ((Rd.f k ((Qc x52 x54).f0) ((Qc x52 x54).f1) ((Qc x52 x54).f2) ((Qc x52 x54).f3) ((Qc x52 x54).f4) ((Qc x52 x54).f5)).bind fun t299=>(if t299=true then (if x54 > 0 then (if 0≤(wrap64 (x54 - 1)) then (if (wrap64 (x54 - 1)) < (x293005.length:Int) then (if ((Qc x293005 (wrap64 (x54 - 1))).f0) ≥ ((Qc x52 x54).f0) then (some false) else (Qe.l0 k x52 x53 (wrap64 (x54+1)) x293000 x293001 x293002 x293003 x293004 x293005)) else (none)) else (none)) else (Qe.l0 k x52 x53 (wrap64 (x54+1)) x293000 x293001 x293002 x293003 x293004 x293005)) else (some false))) else (none)) else (none)) else (some true)
end
def Qe.f (k:Nat) (a0_0:Bool) (a0_1:Bool) (a0_2:Int) (a0_3:Int) (a0_4:Int) (l0_5:List (S75)):Option (Bool):=if a0_2=255 then (if a0_3=0 then (if a0_4=0 then (if a0_1=true then (some false) else (Qe.j0 k a0_0 a0_1 a0_2 a0_3 a0_4 l0_5)) else (some false)) else (some false)) else ((Qv.f a0_2).bind fun t293=>(if t293=true then ((Qp.f a0_3 0 99).bind fun t294=>(if t294=true then ((Qp.f a0_4 0 9999).bind fun t295=>(if t295=true then (Qe.j0 k a0_0 a0_1 a0_2 a0_3 a0_4 l0_5) else (some false))) else (some false))) else (some false)))
def Qe.T11:Bool×List (List Nat×List Nat):=(true,[([],[]),([0],[0]),([1],[1]),([2,1],[2]),([3],[3]),([4,3],[3,4]),([5,3,3],[3,5]),([6],[6]),([7,6],[6,7]),([6],[6]),([9,6],[6,9]),([8,10,6],[6,8,10]),([11,6],[6,11]),([12,6],[6,12]),([6],[6]),([14,6],[6,14]),([13,15,6],[6,13,15]),([6,16,3],[3,6,16]),([3,17],[3,17])])
def Qe.B11:List Nat:=[0,1,3,7,15,31,63,127,255,127,639,2047,4095,8191,127,16511,65535,131071,262143]
theorem Qe.tab11:rtab .any (opsOf Try.f10 11)=Qe.T11:=by kernel_rfl
theorem Qe.bits11:waitsOk Qe.T11.2 Qe.B11=true:=by kernel_rfl
set_option maxHeartbeats 8000000 in
theorem Qe.calls (k:Nat) (c9:Bool) (c0:Bool) (b4:Int) (b8:Int) (b9:Int) (j8:Option Addr) (d0:Nat) (a1:List (S75)) (r:Bool) (w:World) (C7:Kd.C k75 w j8 a1.length a1) (C8:a1.length≤d0) (h:Qe.f k c9 c0 b4 b8 b9 a1=some r) :
  Calls Try.prog 10 #[.agg #[.bool c9,.bool c0,.int .i64 b4,.int .i64 b8,.int .i64 b9,.slice j8 a1.length d0]] w fun e w'=>e = .returned (.bool r)∧Below w.heap.size w w':=by
 have hu26:=Try.underlying26;have hu75:=Try.underlying75;have j3:=zzm C7;have L9:=zzm C8;clear C7 C8;have HB:=zzm (Below.refl w.heap.size w);have H:(if b4=255 then (if b8=0 then (if b9=0 then (if c0=true then (some false) else (Qe.j0 k c9 c0 b4 b8 b9 a1)) else (some false)) else (some false)) else ((Qv.f b4).bind fun C2=>(if C2=true then ((Qp.f b8 0 99).bind fun C3=>(if C3=true then ((Qp.f b9 0 9999).bind fun C4=>(if C4=true then (Qe.j0 k c9 c0 b4 b8 b9 a1) else (some false))) else (some false))) else (some false))))=some r:=h;clear h;have F3:=zzm H;clear H;go_enter Try.func10,Try.ntmps10;go_upto_if 7 with (first|((with_reducible refine gate_dst (N:=1) rfl ?_);(try (refine gate_guard (by rfl) ?_;dsimp only));refine box_event ?hg (N:=1) ?hd (cs:=#[.bool c9,.bool c0,.int .i64 b4,.int .i64 b8,.int .i64 b9,.slice j8 a1.length d0]) (t:=26) ?hr ?_;(case hd=>rfl);(case hg=>rfl);(case hr=>first|(go_simp;done)|(go_simp;rfl));intro b0 hg w3 hbox hb;have b5:=zzm (zzp zzh1 hb);have b6:=zzm (hbox);have b7:=zzm ((by rw [hg];exact (zzo zzh1):w.heap.size≤b0));have g5:=zzm ((by rw [hg];exact (zzo zzh1):w.heap.size≤b0));clear HB;have HB:=b5;have a3:=b6;have M0:=b7;have M1:=g5;clear b5 b6 b7 g5 hb hbox hg;obtain ⟨s8,s9,t0,t1,t2,t3,t4,t5,t6,t7,t8,t9⟩:=zzc6 a3.out))
 (try simp only [Act.put,zzq,zzr,zzs]);go_cut [] (fun wc=>∃ (kq:Nat),Aside0 (Qe.j0 kq c9 c0 b4 b8 b9 a1=some r)∧Aside0 (kq≤k)∧Aside0 (wc.heap[b0]? = some (.cells #[.bool c9,.bool c0,.int .i64 b4,.int .i64 b8,.int .i64 b9,(.slice j8 a1.length d0)] 26 (0,0)))∧Aside0 (Below w.heap.size w wc))
 case first=>
  have H:=F3.out;clear F3;by_cases c5:b4=255
  ·
   rw [if_pos c5] at H;obtain ⟨h7,B1⟩:=zzQ c5;clear c5
   (first|rw [h7]|(simp only [i64_w,i32_w];rw [h7])|skip);by_cases c6:b8=0
   ·
    rw [if_pos c6] at H;obtain ⟨B2,B3⟩:=zzQ c6;clear c6;by_cases c7:b9=0
    ·
     rw [if_pos c7] at H;obtain ⟨B5,B6⟩:=zzQ c7;clear c7;by_cases c8:c0=true
     ·
      subst c8;replace H:=zzIt H;obtain rfl:=Option.some.inj H;obtain ⟨v0,v1,v2,v3,v4,v5,v6,v7,v8,v9,w0,w1⟩:=zzc6 a3.out;go_wp2;go_ret;exact ⟨zzR,zzh3⟩
     ·
      replace c8:=Bool.eq_false_iff.mpr c8;subst c8;replace H:=zzIf H;have H':=zzm H;clear H;obtain ⟨j9,k0,k1,k2,k4,k5,k6,k7,k8,k9,l1,l2⟩:=zzc6 a3.out;go_wp2;go_meet
      case rel=>exact ⟨_,H',⟨by first|omega|exact Nat.le_refl _⟩,⟨zzE a3.out⟩,⟨zzh3⟩⟩
    ·
     rw [if_neg c7] at H;obtain ⟨B5,B6⟩:=zzY c7;obtain rfl:=Option.some.inj H;obtain ⟨l3,l4,l5,l6,l7,l8,l9,m0,m1,m2,m3,m4⟩:=zzc6 a3.out;go_wp2;go_ret;exact ⟨zzR,zzh3⟩
   ·
    rw [if_neg c6] at H;obtain ⟨B2,B3⟩:=zzY c6;obtain rfl:=Option.some.inj H;obtain ⟨m5,m6,m7,m8,m9,n0,n1,n2,n3,n4,n5,n6⟩:=zzc6 a3.out;go_wp2;go_ret;exact ⟨zzR,zzh3⟩
  ·
   rw [if_neg c5] at H;obtain ⟨h7,B1⟩:=zzY c5
   (first|rw [h7]|(simp only [i64_w,i32_w];rw [h7])|skip);obtain ⟨C2,C9,H⟩:=zzG H;by_cases w2:C2=true
   ·
    subst w2;replace H:=zzIt H;obtain ⟨C3,F4,H⟩:=zzG H;by_cases w4:C3=true
    ·
     subst w4;replace H:=zzIt H;obtain ⟨C4,G0,H⟩:=zzG H;by_cases w5:C4=true
     ·
      subst w5;replace H:=zzIt H;have H':=zzm H;clear H;obtain ⟨n7,n8,n9,o0,o1,o2,o3,o4,o5,o6,o7,o8⟩:=zzc6 a3.out;go_wp2_with (first|((with_reducible refine gate_callee (f:=39) rfl ?_);refine goesL_ (some 22) rfl rfl Try.func39 (by kernel_rfl) rfl #[.int .i64 b4] rfl zzM2 ?_;(with_reducible refine (Qv.calls b4 true _ C9.out).mono ?_);rintro e w' ⟨rfl,⟨nd,rfl⟩⟩;refine ⟨_,rfl,?_⟩)|(go_at_call 40;(with_reducible refine (Qp.calls b8 0 99 true _ F4.out).mono ?_);rintro e w' ⟨rfl,⟨nd,rfl⟩⟩)|(go_at_call 40;(with_reducible refine (Qp.calls b9 0 9999 true _ G0.out).mono ?_);rintro e w' ⟨rfl,⟨nd,rfl⟩⟩));go_meet
      case rel=>exact ⟨_,H',⟨by first|omega|exact Nat.le_refl _⟩,⟨zzE a3.out⟩,⟨zzh3⟩⟩
     ·
      replace w5:=Bool.eq_false_iff.mpr w5;subst w5;replace H:=zzIf H;obtain rfl:=Option.some.inj H;obtain ⟨o9,p0,p1,p3,p4,p5,p6,p7,p8,p9,q0,q1⟩:=zzc6 a3.out;go_wp2_with (first|((with_reducible refine gate_callee (f:=39) rfl ?_);refine goesL_ (some 22) rfl rfl Try.func39 (by kernel_rfl) rfl #[.int .i64 b4] rfl zzM2 ?_;(with_reducible refine (Qv.calls b4 true _ C9.out).mono ?_);rintro e w' ⟨rfl,⟨nd,rfl⟩⟩;refine ⟨_,rfl,?_⟩)|(go_at_call 40;(with_reducible refine (Qp.calls b8 0 99 true _ F4.out).mono ?_);rintro e w' ⟨rfl,⟨nd,rfl⟩⟩)|(go_at_call 40;(with_reducible refine (Qp.calls b9 0 9999 false _ G0.out).mono ?_);rintro e w' ⟨rfl,⟨nd,rfl⟩⟩));go_ret;exact ⟨zzR,zzh3⟩
    ·
     replace w4:=Bool.eq_false_iff.mpr w4;subst w4;replace H:=zzIf H;obtain rfl:=Option.some.inj H;obtain ⟨q2,q3,q4,q5,q6,q7,q8,q9,r0,r1,r2,r3⟩:=zzc6 a3.out;go_wp2_with (first|((with_reducible refine gate_callee (f:=39) rfl ?_);refine goesL_ (some 22) rfl rfl Try.func39 (by kernel_rfl) rfl #[.int .i64 b4] rfl zzM2 ?_;(with_reducible refine (Qv.calls b4 true _ C9.out).mono ?_);rintro e w' ⟨rfl,⟨nd,rfl⟩⟩;refine ⟨_,rfl,?_⟩)|(go_at_call 40;(with_reducible refine (Qp.calls b8 0 99 false _ F4.out).mono ?_);rintro e w' ⟨rfl,⟨nd,rfl⟩⟩));go_ret;exact ⟨zzR,zzh3⟩
   ·
    replace w2:=Bool.eq_false_iff.mpr w2;subst w2;replace H:=zzIf H;obtain rfl:=Option.some.inj H;obtain ⟨r4,r5,r6,r7,r8,r9,s0,s1,s2,s3,s4,s5⟩:=zzc6 a3.out;go_wp2_with (first|((with_reducible refine gate_callee (f:=39) rfl ?_);refine goesL_ (some 22) rfl rfl Try.func39 (by kernel_rfl) rfl #[.int .i64 b4] rfl zzM2 ?_;(with_reducible refine (Qv.calls b4 false _ C9.out).mono ?_);rintro e w' ⟨rfl,⟨nd,rfl⟩⟩;refine ⟨_,rfl,?_⟩));go_ret;exact ⟨zzR,zzh3⟩
 case rest=>
  clear F3;try clear c1
  try clear p2
  try clear c3
  try clear c5
  try clear h7
  try clear B1
  try clear c6
  try clear B2
  try clear B3
  try clear c7
  try clear B5
  try clear B6
  try clear c8
  try clear G1
  try clear w2
  try clear w4
  try clear w5
  try clear j9
  try clear k0
  try clear k1
  try clear k2
  try clear k4
  try clear k5
  try clear l3
  try clear l4
  try clear l5
  try clear l6
  try clear l7
  try clear l8
  try clear m5
  try clear m6
  try clear m7
  try clear m8
  try clear m9
  try clear n0
  try clear n7
  try clear n8
  try clear n9
  try clear o0
  try clear o1
  try clear o2
  try clear o9
  try clear p0
  try clear p1
  try clear p3
  try clear p4
  try clear p5
  try clear q2
  try clear q3
  try clear q4
  try clear q5
  try clear q6
  try clear q7
  try clear r4
  try clear r5
  try clear r6
  try clear r7
  try clear r8
  try clear r9
  try clear s8
  try clear s9
  try clear t0
  try clear t1
  try clear t2
  try clear t3
  try clear v0
  try clear v1
  try clear v2
  try clear v3
  try clear v4
  try clear v5
  try clear k6
  try clear k7
  try clear k8
  try clear k9
  try clear l1
  try clear l2
  try clear l9
  try clear m0
  try clear m1
  try clear m2
  try clear m3
  try clear m4
  try clear n1
  try clear n2
  try clear n3
  try clear n4
  try clear n5
  try clear n6
  try clear o3
  try clear o4
  try clear o5
  try clear o6
  try clear o7
  try clear o8
  try clear p6
  try clear p7
  try clear p8
  try clear p9
  try clear q0
  try clear q1
  try clear q8
  try clear q9
  try clear r0
  try clear r1
  try clear r2
  try clear r3
  try clear s0
  try clear s1
  try clear s2
  try clear s3
  try clear s4
  try clear s5
  try clear t4
  try clear t5
  try clear t6
  try clear t7
  try clear t8
  try clear t9
  try clear v6
  try clear v7
  try clear v8
  try clear v9
  try clear w0
  try clear w1
  obtain ⟨kq,HA,HJ1,a3,HB⟩:=hcut;cases kq with
  | zero=>exact absurd HA.out (by simp [Qe.j0])
  | succ L2=>
   have H:=HA.out;clear HA;simp only [Qe.j0] at H;have C5:=zzm H;clear H;go_upto_region 6 with (fail);go_cut [50] (fun L3 wc=>∃ (kq:Nat) (j7:Bool),L3 = .bool j7∧Aside0 (Qe.j1 kq j7 c9 c0 b4 b8 b9 a1=some r)∧Aside0 (kq≤L2)∧Aside0 (wc.heap[b0]? = some (.cells #[.bool c9,.bool c0,.int .i64 b4,.int .i64 b8,.int .i64 b9,(.slice j8 a1.length d0)] 26 (0,0)))∧Aside0 (Below w.heap.size w wc))
   case first=>
    have H:=C5.out;clear C5;obtain ⟨G2,F5,H⟩:=zzG H;by_cases x0:G2=true
    ·
     subst x0;replace H:=zzIt H;by_cases x1:c0=true
     ·
      subst x1;replace H:=zzIt H;have H':=zzm H;clear H;obtain ⟨x2,x3,x4,x5,x6,x7,x8,x9,y0,y1,y2,y3⟩:=zzc6 a3.out;go_wp2_with (first|((with_reducible refine gate_callee (f:=40) rfl ?_);refine goesL_ (some 39) rfl rfl Try.func40 (by kernel_rfl) rfl #[.int .i64 (a1.length:Int),.int .i64 1,.int .i64 6] rfl zzM2 ?_;(with_reducible refine (Qp.calls (a1.length:Int) 1 6 true _ F5.out).mono ?_);rintro e w' ⟨rfl,⟨nd,rfl⟩⟩;refine ⟨_,rfl,?_⟩));go_meet
      case rel=>exact ⟨_,(((a1.length:Int) != 1)),(by first|rfl|(simp;done)|(simp [*];done)),H',⟨by have:=HJ1.out;first|omega|exact Nat.le_refl _⟩,⟨zzE a3.out⟩,⟨zzh3⟩⟩
     ·
      replace x1:=Bool.eq_false_iff.mpr x1;subst x1;replace H:=zzIf H;have H':=zzm H;clear H;obtain ⟨y4,y5,y6,y7,y8,y9,z0,z1,z2,z3,z4,z5⟩:=zzc6 a3.out;go_wp2_with (first|((with_reducible refine gate_callee (f:=40) rfl ?_);refine goesL_ (some 39) rfl rfl Try.func40 (by kernel_rfl) rfl #[.int .i64 (a1.length:Int),.int .i64 1,.int .i64 6] rfl zzM2 ?_;(with_reducible refine (Qp.calls (a1.length:Int) 1 6 true _ F5.out).mono ?_);rintro e w' ⟨rfl,⟨nd,rfl⟩⟩;refine ⟨_,rfl,?_⟩));go_meet
      case rel=>exact ⟨_,(false),(by first|rfl|(simp;done)|(simp [*];done)),H',⟨by have:=HJ1.out;first|omega|exact Nat.le_refl _⟩,⟨zzE a3.out⟩,⟨zzh3⟩⟩
    ·
     replace x0:=Bool.eq_false_iff.mpr x0;subst x0;replace H:=zzIf H;have H':=zzm H;clear H;obtain ⟨z6,z7,z8,z9,A0,A1,A2,A3,A4,A5,A6,A7⟩:=zzc6 a3.out;go_wp2_with (first|((with_reducible refine gate_callee (f:=40) rfl ?_);refine goesL_ (some 39) rfl rfl Try.func40 (by kernel_rfl) rfl #[.int .i64 (a1.length:Int),.int .i64 1,.int .i64 6] rfl zzM2 ?_;(with_reducible refine (Qp.calls (a1.length:Int) 1 6 false _ F5.out).mono ?_);rintro e w' ⟨rfl,⟨nd,rfl⟩⟩;refine ⟨_,rfl,?_⟩));go_meet
     case rel=>exact ⟨_,(true),(by first|rfl|(simp;done)|(simp [*];done)),H',⟨by have:=HJ1.out;first|omega|exact Nat.le_refl _⟩,⟨zzE a3.out⟩,⟨zzh3⟩⟩
   case rest=>
    clear C5;try clear c1
    try clear c2
    try clear p2
    try clear c3
    try clear c4
    try clear c5
    try clear h7
    try clear B1
    try clear c6
    try clear B2
    try clear B3
    try clear c7
    try clear B5
    try clear B6
    try clear c8
    try clear G1
    try clear w2
    try clear w4
    try clear w5
    try clear x0
    try clear x1
    try clear j9
    try clear k0
    try clear k1
    try clear k2
    try clear k4
    try clear k5
    try clear l3
    try clear l4
    try clear l5
    try clear l6
    try clear l7
    try clear l8
    try clear m5
    try clear m6
    try clear m7
    try clear m8
    try clear m9
    try clear n0
    try clear n7
    try clear n8
    try clear n9
    try clear o0
    try clear o1
    try clear o2
    try clear o9
    try clear p0
    try clear p1
    try clear p3
    try clear p4
    try clear p5
    try clear q2
    try clear q3
    try clear q4
    try clear q5
    try clear q6
    try clear q7
    try clear r4
    try clear r5
    try clear r6
    try clear r7
    try clear r8
    try clear r9
    try clear x2
    try clear x3
    try clear x4
    try clear x5
    try clear x6
    try clear x7
    try clear y4
    try clear y5
    try clear y6
    try clear y7
    try clear y8
    try clear y9
    try clear z6
    try clear z7
    try clear z8
    try clear z9
    try clear A0
    try clear A1
    try clear s8
    try clear s9
    try clear t0
    try clear t1
    try clear t2
    try clear t3
    try clear v0
    try clear v1
    try clear v2
    try clear v3
    try clear v4
    try clear v5
    try clear k6
    try clear k7
    try clear k8
    try clear k9
    try clear l1
    try clear l2
    try clear l9
    try clear m0
    try clear m1
    try clear m2
    try clear m3
    try clear m4
    try clear n1
    try clear n2
    try clear n3
    try clear n4
    try clear n5
    try clear n6
    try clear o3
    try clear o4
    try clear o5
    try clear o6
    try clear o7
    try clear o8
    try clear p6
    try clear p7
    try clear p8
    try clear p9
    try clear q0
    try clear q1
    try clear q8
    try clear q9
    try clear r0
    try clear r1
    try clear r2
    try clear r3
    try clear s0
    try clear s1
    try clear s2
    try clear s3
    try clear s4
    try clear s5
    try clear x8
    try clear x9
    try clear y0
    try clear y1
    try clear y2
    try clear y3
    try clear z0
    try clear z1
    try clear z2
    try clear z3
    try clear z4
    try clear z5
    try clear A2
    try clear A3
    try clear A4
    try clear A5
    try clear A6
    try clear A7
    try clear t4
    try clear t5
    try clear t6
    try clear t7
    try clear t8
    try clear t9
    try clear v6
    try clear v7
    try clear v8
    try clear v9
    try clear w0
    try clear w1
    try clear p2
    obtain ⟨kq,j7,rfl,HA,HJ22,a3,HB⟩:=hcut;cases kq with
    | zero=>exact absurd HA.out (by simp [Qe.j1])
    | succ F6=>
     have H:=HA.out;clear HA;simp only [Qe.j1] at H;by_cases C0:j7=true
     ·
      subst C0;replace H:=zzIt H;obtain rfl:=Option.some.inj H;go_wp2;go_ret;exact ⟨zzR,zzh3⟩
     ·
      replace C0:=Bool.eq_false_iff.mpr C0;subst C0;replace H:=zzIf H;have H':=zzm H;clear H;obtain ⟨D9,E0,E1,E2,E3,E4,E5,E6,E7,E8,E9,F0⟩:=zzc6 a3.out;go_wp2;go_loopg [54] F6 (fun kq L4 w'=>∃ (a0:Int),L4 = .int .i64 a0∧Aside0 (Qe.l0 kq a1 (a1.length:Int) a0 c9 c0 b4 b8 b9 a1=some r)∧Aside0 (kq≤F6)∧Aside0 (w'.heap[b0]? = some (.cells #[.bool c9,.bool c0,.int .i64 b4,.int .i64 b8,.int .i64 b9,(.slice j8 a1.length d0)] 26 (0,0)))∧Aside0 (Below w.heap.size w w'))
      case atStart=>exact ⟨(0),(by first|rfl|(simp;done)|(simp [*];done)),H',⟨Nat.le_refl _⟩,⟨zzE a3.out⟩,⟨zzh3⟩⟩
      case round=>
       clear H';try clear c1
       try clear c2
       try clear p2
       try clear c3
       try clear c4
       try clear c5
       try clear h7
       try clear B1
       try clear c6
       try clear B2
       try clear B3
       try clear c7
       try clear B5
       try clear B6
       try clear c8
       try clear G1
       try clear w2
       try clear w4
       try clear w5
       try clear x0
       try clear x1
       try clear C0
       try clear j9
       try clear k0
       try clear k1
       try clear k2
       try clear k4
       try clear k5
       try clear l3
       try clear l4
       try clear l5
       try clear l6
       try clear l7
       try clear l8
       try clear m5
       try clear m6
       try clear m7
       try clear m8
       try clear m9
       try clear n0
       try clear n7
       try clear n8
       try clear n9
       try clear o0
       try clear o1
       try clear o2
       try clear o9
       try clear p0
       try clear p1
       try clear p3
       try clear p4
       try clear p5
       try clear q2
       try clear q3
       try clear q4
       try clear q5
       try clear q6
       try clear q7
       try clear r4
       try clear r5
       try clear r6
       try clear r7
       try clear r8
       try clear r9
       try clear x2
       try clear x3
       try clear x4
       try clear x5
       try clear x6
       try clear x7
       try clear y4
       try clear y5
       try clear y6
       try clear y7
       try clear y8
       try clear y9
       try clear z6
       try clear z7
       try clear z8
       try clear z9
       try clear A0
       try clear A1
       try clear D9
       try clear E0
       try clear E1
       try clear E2
       try clear E3
       try clear E4
       try clear s8
       try clear s9
       try clear t0
       try clear t1
       try clear t2
       try clear t3
       try clear v0
       try clear v1
       try clear v2
       try clear v3
       try clear v4
       try clear v5
       try clear k6
       try clear k7
       try clear k8
       try clear k9
       try clear l1
       try clear l2
       try clear l9
       try clear m0
       try clear m1
       try clear m2
       try clear m3
       try clear m4
       try clear n1
       try clear n2
       try clear n3
       try clear n4
       try clear n5
       try clear n6
       try clear o3
       try clear o4
       try clear o5
       try clear o6
       try clear o7
       try clear o8
       try clear p6
       try clear p7
       try clear p8
       try clear p9
       try clear q0
       try clear q1
       try clear q8
       try clear q9
       try clear r0
       try clear r1
       try clear r2
       try clear r3
       try clear s0
       try clear s1
       try clear s2
       try clear s3
       try clear s4
       try clear s5
       try clear x8
       try clear x9
       try clear y0
       try clear y1
       try clear y2
       try clear y3
       try clear z0
       try clear z1
       try clear z2
       try clear z3
       try clear z4
       try clear z5
       try clear A2
       try clear A3
       try clear A4
       try clear A5
       try clear A6
       try clear A7
       try clear E5
       try clear E6
       try clear E7
       try clear E8
       try clear E9
       try clear F0
       try clear t4
       try clear t5
       try clear t6
       try clear t7
       try clear t8
       try clear t9
       try clear v6
       try clear v7
       try clear v8
       try clear v9
       try clear w0
       try clear w1
       try clear p2
       obtain ⟨a0,rfl,HA,HK3,a3,HB⟩:=hrel;cases gk with
       | zero=>exact absurd HA.out (by simp [Qe.l0])
       | succ k3=>
        have H:=HA.out;clear HA;simp only [Qe.l0] at H;by_cases A8:a0 < (a1.length:Int)
        ·
         rw [if_pos A8] at H;have F7:decide (a0 < (a1.length:Int))=true:=decide_eq_true A8;clear A8;by_cases D0 : 0≤a0
         ·
          rw [if_pos D0] at H;have M2:decide (0≤a0)=true:=decide_eq_true D0;clear D0;by_cases D1:a0 < (a1.length:Int)
          ·
           rw [if_pos D1] at H;have M3:decide (a0 < (a1.length:Int))=true:=decide_eq_true D1;clear D1;obtain ⟨G3,C1,H⟩:=zzG H;by_cases D2:G3=true
           ·
            subst D2;replace H:=zzIt H;by_cases A9:a0 > 0
            ·
             rw [if_pos A9] at H;have F8:decide (0 < a0)=true:=decide_eq_true A9;clear A9;obtain ⟨b3,hji38⟩:∃ j_:Int,(wrap64 (a0 - 1))=j_:=⟨_,rfl⟩;replace H:(if 0≤(b3) then (if (b3) < (a1.length:Int) then (if ((Qc a1 (b3)).f0) ≥ ((Qc a1 a0).f0) then (some false) else (Qe.l0 k3 a1 (a1.length:Int) (wrap64 (a0+1)) c9 c0 b4 b8 b9 a1)) else (none)) else (none))=some r:=by first|(rw [hji38] at H;exact H)|(simp only [hji38] at H ⊢;exact H)
             (try rw [hji38] at C1);have hji38w:(IntKind.i64.wrap (a0 - 1))=b3:=(i64_w _).trans hji38;by_cases D3 : 0≤(b3)
             ·
              rw [if_pos D3] at H;have M4:decide (0≤(b3))=true:=decide_eq_true D3;clear D3;by_cases D4:(b3) < (a1.length:Int)
              ·
               rw [if_pos D4] at H;have M5:decide ((b3) < (a1.length:Int))=true:=decide_eq_true D4;clear D4;by_cases B0:((Qc a1 (b3)).f0) ≥ ((Qc a1 a0).f0)
               ·
                rw [if_pos B0] at H;have F9:decide (((Qc a1 a0).f0)≤((Qc a1 (b3)).f0))=true:=decide_eq_true B0;clear B0;obtain rfl:=Option.some.inj H;have e9 : 0≤(a0:Int):=zzt;have g0:a0 < (a1.length:Int):=zzt;obtain ⟨a9,a6,a7,b1,b2,j4,d2,d3,d4,d5,d6,d7,d8,d9,e0,e1⟩:=Ro j3.out a0 e9 g0;cases j4;replace d2:=zzx HB.out d2;replace d3:=zzx HB.out d3;replace d4:=zzx HB.out d4;replace d5:=zzx HB.out d5;replace d6:=zzx HB.out d6;replace d7:=zzx HB.out d7;have g1:=zzm d9;have g2:=zzm d8;clear d9 d8;have g3:=zzm e1;have g4:=zzm e0;clear e1 e0;replace e9:=eq_true e9;replace g0:=eq_true g0;try go_wp2_with (first|((with_reducible refine gate_dst (N:=4) rfl ?_);(try (refine gate_guard (by rfl) ?_;dsimp only));refine box_event ?hg (N:=4) ?hd (cs:=#[.int .i64 0,.int .i64 0,.bool false,.slice none 0 0,.bool false,.slice none 0 0]) (t:=75) ?hr ?_;(case hd=>rfl);(case hg=>rfl);(case hr=>first|(go_simp;done)|(go_simp;rfl));intro a2 hg D5 hbox hb;have b5:=zzm (zzh (g:=b0) (o:=.cells #[.bool c9,.bool c0,.int .i64 b4,.int .i64 b8,.int .i64 b9,.slice (some a9) a1.length d0] 26 (0,0)) (zzE a3.out) hb);have b6:=zzm (zzp zzh2 hb);have b7:=zzm (hbox);have g5:=zzm ((by rw [hg];exact (zzo zzh2):w.heap.size≤a2));have h8:=zzm ((by rw [hg];exact (zzo zzh2):w.heap.size≤a2));have h9:=zzm ((by rw [hg];exact Nat.ne_of_lt (blk_lt (g:=b0) (o:=.cells #[.bool c9,.bool c0,.int .i64 b4,.int .i64 b8,.int .i64 b9,.slice (some a9) a1.length d0] 26 (0,0)) (zzE a3.out)):b0≠a2));have j2:=zzm ((by rw [hg];exact Nat.ne_of_gt (blk_lt (g:=b0) (o:=.cells #[.bool c9,.bool c0,.int .i64 b4,.int .i64 b8,.int .i64 b9,.slice (some a9) a1.length d0] 26 (0,0)) (zzE a3.out)):a2≠b0));clear a3 HB;have a3:=b5;have HB:=b6;have a4:=b7;have B7:=g5;have B8:=h8;have a5:=h9;have e2:=j2;clear b5 b6 b7 g5 h8 h9 j2 hb hbox hg;have M6:=e2.out;have M7:=a5.out;obtain ⟨G4,G5,G6,G7,G8,G9,H0,H1,H2,H3,H4,H5⟩:=zzc6 a4.out))
                have b5:Aside0 (((((((D5.setCell ⟨a2,0,none⟩ (.int .i64 ((Qc a1 a0).f0))).setCell ⟨a2,1,none⟩ (.int .i64 ((Qc a1 a0).f1))).setCell ⟨a2,2,none⟩ (.bool ((Qc a1 a0).f2))).setCell ⟨a2,3,none⟩ (.slice a6 ((Qc a1 a0).f3).length a7)).setCell ⟨a2,4,none⟩ (.bool ((Qc a1 a0).f4))).setCell ⟨a2,5,none⟩ (.slice b1 ((Qc a1 a0).f5).length b2)).heap[b0]? = some (.cells #[.bool c9,.bool c0,.int .i64 b4,.int .i64 b8,.int .i64 b9,.slice (some a9) a1.length d0] 26 (0,0))):=⟨by (with_reducible repeat (first|apply zzf|apply zzg|apply zze));refine zzj ?_ a5.out _;(with_reducible repeat (first|apply zzf|apply zzg|apply zze));refine zzj ?_ a5.out _;(with_reducible repeat (first|apply zzf|apply zzg|apply zze));refine zzj ?_ a5.out _;(with_reducible repeat (first|apply zzf|apply zzg|apply zze));refine zzj ?_ a5.out _;(with_reducible repeat (first|apply zzf|apply zzg|apply zze));refine zzj ?_ a5.out _;(with_reducible repeat (first|apply zzf|apply zzg|apply zze));refine zzj ?_ a5.out _;(with_reducible repeat (first|apply zzf|apply zzg|apply zze));exact a3.out⟩;have b6:Aside0 (((((((D5.setCell ⟨a2,0,none⟩ (.int .i64 ((Qc a1 a0).f0))).setCell ⟨a2,1,none⟩ (.int .i64 ((Qc a1 a0).f1))).setCell ⟨a2,2,none⟩ (.bool ((Qc a1 a0).f2))).setCell ⟨a2,3,none⟩ (.slice a6 ((Qc a1 a0).f3).length a7)).setCell ⟨a2,4,none⟩ (.bool ((Qc a1 a0).f4))).setCell ⟨a2,5,none⟩ (.slice b1 ((Qc a1 a0).f5).length b2)).heap[a2]? = some (.cells #[.int .i64 ((Qc a1 a0).f0),.int .i64 ((Qc a1 a0).f1),.bool ((Qc a1 a0).f2),.slice a6 ((Qc a1 a0).f3).length a7,.bool ((Qc a1 a0).f4),.slice b1 ((Qc a1 a0).f5).length b2] 75 (0,0))):=⟨by (with_reducible repeat (first|apply zzf|apply zzg|apply zze));refine zzi (cs:=#[.int .i64 ((Qc a1 a0).f0),.int .i64 ((Qc a1 a0).f1),.bool ((Qc a1 a0).f2),.slice a6 ((Qc a1 a0).f3).length a7,.bool ((Qc a1 a0).f4),.slice none 0 0]) ?_ 5 _ rfl;refine zzi (cs:=#[.int .i64 ((Qc a1 a0).f0),.int .i64 ((Qc a1 a0).f1),.bool ((Qc a1 a0).f2),.slice a6 ((Qc a1 a0).f3).length a7,.bool false,.slice none 0 0]) ?_ 4 _ rfl;refine zzi (cs:=#[.int .i64 ((Qc a1 a0).f0),.int .i64 ((Qc a1 a0).f1),.bool ((Qc a1 a0).f2),.slice none 0 0,.bool false,.slice none 0 0]) ?_ 3 _ rfl;refine zzi (cs:=#[.int .i64 ((Qc a1 a0).f0),.int .i64 ((Qc a1 a0).f1),.bool false,.slice none 0 0,.bool false,.slice none 0 0]) ?_ 2 _ rfl;refine zzi (cs:=#[.int .i64 ((Qc a1 a0).f0),.int .i64 0,.bool false,.slice none 0 0,.bool false,.slice none 0 0]) ?_ 1 _ rfl;refine zzi (cs:=#[.int .i64 0,.int .i64 0,.bool false,.slice none 0 0,.bool false,.slice none 0 0]) ?_ 0 _ rfl;(with_reducible repeat (first|apply zzf|apply zzg|apply zze));exact a4.out⟩;have b7:Aside0 (Below w.heap.size w ((((((D5.setCell ⟨a2,0,none⟩ (.int .i64 ((Qc a1 a0).f0))).setCell ⟨a2,1,none⟩ (.int .i64 ((Qc a1 a0).f1))).setCell ⟨a2,2,none⟩ (.bool ((Qc a1 a0).f2))).setCell ⟨a2,3,none⟩ (.slice a6 ((Qc a1 a0).f3).length a7)).setCell ⟨a2,4,none⟩ (.bool ((Qc a1 a0).f4))).setCell ⟨a2,5,none⟩ (.slice b1 ((Qc a1 a0).f5).length b2))):=⟨zzh3⟩
                (try clear a3)
                (try clear a4)
                (try clear HB);generalize ((((((D5.setCell ⟨a2,0,none⟩ (.int .i64 ((Qc a1 a0).f0))).setCell ⟨a2,1,none⟩ (.int .i64 ((Qc a1 a0).f1))).setCell ⟨a2,2,none⟩ (.bool ((Qc a1 a0).f2))).setCell ⟨a2,3,none⟩ (.slice a6 ((Qc a1 a0).f3).length a7)).setCell ⟨a2,4,none⟩ (.bool ((Qc a1 a0).f4))).setCell ⟨a2,5,none⟩ (.slice b1 ((Qc a1 a0).f5).length b2))=L5 at b5 b6 b7 ⊢;have a3:=b5;have a4:=b6;have HB:=b7;clear b5 b6 b7;have b5:=zzm (zzg a3.out);have b6:=zzm (zzg a4.out);have b7:=zzm (zzc HB.out);clear a3 a4 HB;have a3:=b5;have a4:=b6;have HB:=b7;clear b5 b6 b7;have j5 : 0≤((b3):Int):=zzt;have j6:(b3) < (a1.length:Int):=zzt;obtain ⟨B9,w6,w7,w8,w9,C6,e3,e4,e5,e6,e7,e8,g6,g7,g8,g9⟩:=Ro j3.out (b3) j5 j6;have h0:=e8;have h1:=e7;have h2:=e6;have h3:=e5;have h4:=e4;have h5:=e3;obtain rfl:a9=B9:=(by injection C6);replace e3:=zzx HB.out e3;replace e4:=zzx HB.out e4;replace e5:=zzx HB.out e5;replace e6:=zzx HB.out e6;replace e7:=zzx HB.out e7;replace e8:=zzx HB.out e8;have s6:=zzm g7;have F1:=zzm g6;clear g7 g6;have s7:=zzm g9;have F2:=zzm g8;clear g9 g8;replace j5:=eq_true j5;replace j6:=eq_true j6;refine start_ (n:=19) (S:=fun w'=>w'.cell? ⟨a2,0,none⟩=some (.int .i64 ((Qc a1 a0).f0))∧w'.cell? ⟨a2,1,none⟩=some (.int .i64 ((Qc a1 a0).f1))∧w'.cell? ⟨a2,2,none⟩=some (.bool ((Qc a1 a0).f2))∧w'.cell? ⟨a2,3,none⟩=some (.slice a6 ((Qc a1 a0).f3).length a7)∧w'.cell? ⟨a2,4,none⟩=some (.bool ((Qc a1 a0).f4))∧w'.cell? ⟨a2,5,none⟩=some (.slice b1 ((Qc a1 a0).f5).length b2)∧w'.cell? ⟨b0,0,none⟩=some (.bool c9)∧w'.cell? ⟨b0,1,none⟩=some (.bool c0)∧w'.cell? ⟨b0,2,none⟩=some (.int .i64 b4)∧w'.cell? ⟨b0,3,none⟩=some (.int .i64 b8)∧w'.cell? ⟨b0,4,none⟩=some (.int .i64 b9)∧w'.cell? ⟨b0,5,none⟩=some (.slice (some a9) a1.length d0)∧w'.cell? (a9.add (((b3)).toNat * 6))=some (.int .i64 ((Qc a1 (b3)).f0))∧w'.cell? ⟨(a9.add (((b3)).toNat * 6)).block,(a9.add (((b3)).toNat * 6)).off+1,none⟩=some (.int .i64 ((Qc a1 (b3)).f1))∧w'.cell? ⟨(a9.add (((b3)).toNat * 6)).block,(a9.add (((b3)).toNat * 6)).off+2,none⟩=some (.bool ((Qc a1 (b3)).f2))∧w'.cell? ⟨(a9.add (((b3)).toNat * 6)).block,(a9.add (((b3)).toNat * 6)).off+3,none⟩=some (.slice w6 ((Qc a1 (b3)).f3).length w7)∧w'.cell? ⟨(a9.add (((b3)).toNat * 6)).block,(a9.add (((b3)).toNat * 6)).off+4,none⟩=some (.bool ((Qc a1 (b3)).f4))∧w'.cell? ⟨(a9.add (((b3)).toNat * 6)).block,(a9.add (((b3)).toNat * 6)).off+5,none⟩=some (.slice w8 ((Qc a1 (b3)).f5).length w9)) (ds:=[]) (zzB 19 0) (by kernel_rfl) rfl rfl ⟨(zzk a4.out 0).trans rfl,(zzk a4.out 1).trans rfl,(zzk a4.out 2).trans rfl,(zzk a4.out 3).trans rfl,(zzk a4.out 4).trans rfl,(zzk a4.out 5).trans rfl,(zzk a3.out 0).trans rfl,(zzk a3.out 1).trans rfl,(zzk a3.out 2).trans rfl,(zzk a3.out 3).trans rfl,(zzk a3.out 4).trans rfl,(zzk a3.out 5).trans rfl,(zzx HB.out h5),(zzx HB.out h4),(zzx HB.out h3),(zzx HB.out h2),(zzx HB.out h1),(zzx HB.out h0)⟩ (fun d1=>?_);refine with_tabW Qe.tab11 Qe.bits11 (fun a8 h6=>?_);generalize L5.drew=N4 at a3 a4 HB s6 s7 e3 e4 e5 e6 e7 e8 d1 ⊢;refine zzT 0 59 19 1 a8 h6 d1 ?_
                refine one_ (i:=1) (N:=some 60) (zzB 19 3) rfl rfl (one_of a8.out (by kernel_rfl)) (by decide) (fun K hK=>?_);refine goes_ Try.func41 (by kernel_rfl) rfl #[.agg #[.int .i64 ((Qc a1 a0).f0),.int .i64 ((Qc a1 a0).f1),.bool ((Qc a1 a0).f2),.slice a6 ((Qc a1 a0).f3).length a7,.bool ((Qc a1 a0).f4),.slice b1 ((Qc a1 a0).f5).length b2]] (by rfl) rfl rfl zzM2 ?_;with_reducible refine (Rd.calls k3 ((Qc a1 a0).f0) ((Qc a1 a0).f1) ((Qc a1 a0).f2) _ _ ((Qc a1 a0).f3) ((Qc a1 a0).f4) _ _ ((Qc a1 a0).f5) true _ ?side1 ?side2 ?side3 ?side4 C1.out).mono ?_
                (case side1=>exact zzcb g1 HB)
                (case side2=>exact g2.out)
                (case side3=>exact zzcb g3 HB)
                (case side4=>exact g4.out);rintro e N5 ⟨rfl,hb⟩;refine ⟨_,rfl,?_⟩;have b5:=zzm (zzh (g:=b0) (o:=.cells #[.bool c9,.bool c0,.int .i64 b4,.int .i64 b8,.int .i64 b9,.slice (some a9) a1.length d0] 26 (0,0)) (zzE a3.out) hb);have b6:=zzm (zzh (g:=a2) (o:=.cells #[.int .i64 ((Qc a1 a0).f0),.int .i64 ((Qc a1 a0).f1),.bool ((Qc a1 a0).f2),.slice a6 ((Qc a1 a0).f3).length a7,.bool ((Qc a1 a0).f4),.slice b1 ((Qc a1 a0).f5).length b2] 75 (0,0)) (zzE a4.out) hb);have b7:=zzm (zzp zzh2 hb);clear a3 a4 HB;have a3:=b5;have a4:=b6;have HB:=b7;clear b5 b6 b7
                (try clear hb)
                (try clear hb2)
                (try clear hk)
                (try clear hi);refine hK.out _ _ ⟨(zzk a4.out 0).trans rfl,(zzk a4.out 1).trans rfl,(zzk a4.out 2).trans rfl,(zzk a4.out 3).trans rfl,(zzk a4.out 4).trans rfl,(zzk a4.out 5).trans rfl,(zzk a3.out 0).trans rfl,(zzk a3.out 1).trans rfl,(zzk a3.out 2).trans rfl,(zzk a3.out 3).trans rfl,(zzk a3.out 4).trans rfl,(zzk a3.out 5).trans rfl,(zzx HB.out h5),(zzx HB.out h4),(zzx HB.out h3),(zzx HB.out h2),(zzx HB.out h1),(zzx HB.out h0)⟩ (fun d1=>?_);clear hK K;refine zzO 60 ?_
                refine zzP 2 61 19 7 a8 ?_
                refine zzP 3 62 19 15 a8 ?_
                refine zzP 4 63 19 31 a8 ?_
                refine zzP 5 64 19 63 a8 ?_
                refine zzP 6 65 19 127 a8 ?_
                refine zzP 7 66 19 255 a8 ?_
                refine zzP 9 68 19 767 a8 ?_
                refine zzP 10 69 19 1791 a8 ?_
                refine zzP 14 73 19 18175 a8 ?_
                refine zzT 8 67 19 18431 a8 h6 d1 ?_
                refine zzP 11 70 19 20479 a8 ?_
                refine zzP 12 71 19 24575 a8 ?_
                refine zzT 13 72 19 32767 a8 h6 d1 ?_
                refine zzT 15 74 19 65535 a8 h6 d1 ?_
                refine zzP 16 75 19 131071 a8 ?_
                refine zzP 17 76 19 262143 a8 ?_
                refine zzP 18 77 19 524287 a8 ?_
                refine done_ (done_of a8.out (by kernel_rfl)) ?_;try go_wp2
                go_ret;exact ⟨by first|rfl|(simp [errW_none,errW_some] <;> rfl)|(simp only [← hji38];first|rfl|(simp [errW_none,errW_some] <;> rfl))|(simp [*,errW_none,errW_some] <;> rfl),zzh3⟩
               ·
                rw [if_neg B0] at H;have F9:decide (((Qc a1 a0).f0)≤((Qc a1 (b3)).f0))=false:=decide_eq_false B0;clear B0;have H':=zzm H;clear H;have e9 : 0≤(a0:Int):=zzt;have g0:a0 < (a1.length:Int):=zzt;obtain ⟨a9,a6,a7,b1,b2,j4,d2,d3,d4,d5,d6,d7,d8,d9,e0,e1⟩:=Ro j3.out a0 e9 g0;cases j4;replace d2:=zzx HB.out d2;replace d3:=zzx HB.out d3;replace d4:=zzx HB.out d4;replace d5:=zzx HB.out d5;replace d6:=zzx HB.out d6;replace d7:=zzx HB.out d7;have g1:=zzm d9;have g2:=zzm d8;clear d9 d8;have g3:=zzm e1;have g4:=zzm e0;clear e1 e0;replace e9:=eq_true e9;replace g0:=eq_true g0;try go_wp2_with (first|((with_reducible refine gate_dst (N:=4) rfl ?_);(try (refine gate_guard (by rfl) ?_;dsimp only));refine box_event ?hg (N:=4) ?hd (cs:=#[.int .i64 0,.int .i64 0,.bool false,.slice none 0 0,.bool false,.slice none 0 0]) (t:=75) ?hr ?_;(case hd=>rfl);(case hg=>rfl);(case hr=>first|(go_simp;done)|(go_simp;rfl));intro a2 hg D6 hbox hb;have b5:=zzm (zzh (g:=b0) (o:=.cells #[.bool c9,.bool c0,.int .i64 b4,.int .i64 b8,.int .i64 b9,.slice (some a9) a1.length d0] 26 (0,0)) (zzE a3.out) hb);have b6:=zzm (zzp zzh2 hb);have b7:=zzm (hbox);have g5:=zzm ((by rw [hg];exact (zzo zzh2):w.heap.size≤a2));have h8:=zzm ((by rw [hg];exact (zzo zzh2):w.heap.size≤a2));have h9:=zzm ((by rw [hg];exact Nat.ne_of_lt (blk_lt (g:=b0) (o:=.cells #[.bool c9,.bool c0,.int .i64 b4,.int .i64 b8,.int .i64 b9,.slice (some a9) a1.length d0] 26 (0,0)) (zzE a3.out)):b0≠a2));have j2:=zzm ((by rw [hg];exact Nat.ne_of_gt (blk_lt (g:=b0) (o:=.cells #[.bool c9,.bool c0,.int .i64 b4,.int .i64 b8,.int .i64 b9,.slice (some a9) a1.length d0] 26 (0,0)) (zzE a3.out)):a2≠b0));clear a3 HB;have a3:=b5;have HB:=b6;have a4:=b7;have B7:=g5;have B8:=h8;have a5:=h9;have e2:=j2;clear b5 b6 b7 g5 h8 h9 j2 hb hbox hg;have M8:=e2.out;have M9:=a5.out;obtain ⟨H6,H7,H8,H9,I0,I1,I2,I3,I4,I5,I6,I7⟩:=zzc6 a4.out))
                have b5:Aside0 (((((((D6.setCell ⟨a2,0,none⟩ (.int .i64 ((Qc a1 a0).f0))).setCell ⟨a2,1,none⟩ (.int .i64 ((Qc a1 a0).f1))).setCell ⟨a2,2,none⟩ (.bool ((Qc a1 a0).f2))).setCell ⟨a2,3,none⟩ (.slice a6 ((Qc a1 a0).f3).length a7)).setCell ⟨a2,4,none⟩ (.bool ((Qc a1 a0).f4))).setCell ⟨a2,5,none⟩ (.slice b1 ((Qc a1 a0).f5).length b2)).heap[b0]? = some (.cells #[.bool c9,.bool c0,.int .i64 b4,.int .i64 b8,.int .i64 b9,.slice (some a9) a1.length d0] 26 (0,0))):=⟨by (with_reducible repeat (first|apply zzf|apply zzg|apply zze));refine zzj ?_ a5.out _;(with_reducible repeat (first|apply zzf|apply zzg|apply zze));refine zzj ?_ a5.out _;(with_reducible repeat (first|apply zzf|apply zzg|apply zze));refine zzj ?_ a5.out _;(with_reducible repeat (first|apply zzf|apply zzg|apply zze));refine zzj ?_ a5.out _;(with_reducible repeat (first|apply zzf|apply zzg|apply zze));refine zzj ?_ a5.out _;(with_reducible repeat (first|apply zzf|apply zzg|apply zze));refine zzj ?_ a5.out _;(with_reducible repeat (first|apply zzf|apply zzg|apply zze));exact a3.out⟩;have b6:Aside0 (((((((D6.setCell ⟨a2,0,none⟩ (.int .i64 ((Qc a1 a0).f0))).setCell ⟨a2,1,none⟩ (.int .i64 ((Qc a1 a0).f1))).setCell ⟨a2,2,none⟩ (.bool ((Qc a1 a0).f2))).setCell ⟨a2,3,none⟩ (.slice a6 ((Qc a1 a0).f3).length a7)).setCell ⟨a2,4,none⟩ (.bool ((Qc a1 a0).f4))).setCell ⟨a2,5,none⟩ (.slice b1 ((Qc a1 a0).f5).length b2)).heap[a2]? = some (.cells #[.int .i64 ((Qc a1 a0).f0),.int .i64 ((Qc a1 a0).f1),.bool ((Qc a1 a0).f2),.slice a6 ((Qc a1 a0).f3).length a7,.bool ((Qc a1 a0).f4),.slice b1 ((Qc a1 a0).f5).length b2] 75 (0,0))):=⟨by (with_reducible repeat (first|apply zzf|apply zzg|apply zze));refine zzi (cs:=#[.int .i64 ((Qc a1 a0).f0),.int .i64 ((Qc a1 a0).f1),.bool ((Qc a1 a0).f2),.slice a6 ((Qc a1 a0).f3).length a7,.bool ((Qc a1 a0).f4),.slice none 0 0]) ?_ 5 _ rfl;refine zzi (cs:=#[.int .i64 ((Qc a1 a0).f0),.int .i64 ((Qc a1 a0).f1),.bool ((Qc a1 a0).f2),.slice a6 ((Qc a1 a0).f3).length a7,.bool false,.slice none 0 0]) ?_ 4 _ rfl;refine zzi (cs:=#[.int .i64 ((Qc a1 a0).f0),.int .i64 ((Qc a1 a0).f1),.bool ((Qc a1 a0).f2),.slice none 0 0,.bool false,.slice none 0 0]) ?_ 3 _ rfl;refine zzi (cs:=#[.int .i64 ((Qc a1 a0).f0),.int .i64 ((Qc a1 a0).f1),.bool false,.slice none 0 0,.bool false,.slice none 0 0]) ?_ 2 _ rfl;refine zzi (cs:=#[.int .i64 ((Qc a1 a0).f0),.int .i64 0,.bool false,.slice none 0 0,.bool false,.slice none 0 0]) ?_ 1 _ rfl;refine zzi (cs:=#[.int .i64 0,.int .i64 0,.bool false,.slice none 0 0,.bool false,.slice none 0 0]) ?_ 0 _ rfl;(with_reducible repeat (first|apply zzf|apply zzg|apply zze));exact a4.out⟩;have b7:Aside0 (Below w.heap.size w ((((((D6.setCell ⟨a2,0,none⟩ (.int .i64 ((Qc a1 a0).f0))).setCell ⟨a2,1,none⟩ (.int .i64 ((Qc a1 a0).f1))).setCell ⟨a2,2,none⟩ (.bool ((Qc a1 a0).f2))).setCell ⟨a2,3,none⟩ (.slice a6 ((Qc a1 a0).f3).length a7)).setCell ⟨a2,4,none⟩ (.bool ((Qc a1 a0).f4))).setCell ⟨a2,5,none⟩ (.slice b1 ((Qc a1 a0).f5).length b2))):=⟨zzh3⟩
                (try clear a3)
                (try clear a4)
                (try clear HB);generalize ((((((D6.setCell ⟨a2,0,none⟩ (.int .i64 ((Qc a1 a0).f0))).setCell ⟨a2,1,none⟩ (.int .i64 ((Qc a1 a0).f1))).setCell ⟨a2,2,none⟩ (.bool ((Qc a1 a0).f2))).setCell ⟨a2,3,none⟩ (.slice a6 ((Qc a1 a0).f3).length a7)).setCell ⟨a2,4,none⟩ (.bool ((Qc a1 a0).f4))).setCell ⟨a2,5,none⟩ (.slice b1 ((Qc a1 a0).f5).length b2))=L6 at b5 b6 b7 ⊢;have a3:=b5;have a4:=b6;have HB:=b7;clear b5 b6 b7;have b5:=zzm (zzg a3.out);have b6:=zzm (zzg a4.out);have b7:=zzm (zzc HB.out);clear a3 a4 HB;have a3:=b5;have a4:=b6;have HB:=b7;clear b5 b6 b7;have j5 : 0≤((b3):Int):=zzt;have j6:(b3) < (a1.length:Int):=zzt;obtain ⟨B9,w6,w7,w8,w9,C6,e3,e4,e5,e6,e7,e8,g6,g7,g8,g9⟩:=Ro j3.out (b3) j5 j6;have h0:=e8;have h1:=e7;have h2:=e6;have h3:=e5;have h4:=e4;have h5:=e3;obtain rfl:a9=B9:=(by injection C6);replace e3:=zzx HB.out e3;replace e4:=zzx HB.out e4;replace e5:=zzx HB.out e5;replace e6:=zzx HB.out e6;replace e7:=zzx HB.out e7;replace e8:=zzx HB.out e8;have s6:=zzm g7;have F1:=zzm g6;clear g7 g6;have s7:=zzm g9;have F2:=zzm g8;clear g9 g8;replace j5:=eq_true j5;replace j6:=eq_true j6;refine start_ (n:=19) (S:=fun w'=>w'.cell? ⟨a2,0,none⟩=some (.int .i64 ((Qc a1 a0).f0))∧w'.cell? ⟨a2,1,none⟩=some (.int .i64 ((Qc a1 a0).f1))∧w'.cell? ⟨a2,2,none⟩=some (.bool ((Qc a1 a0).f2))∧w'.cell? ⟨a2,3,none⟩=some (.slice a6 ((Qc a1 a0).f3).length a7)∧w'.cell? ⟨a2,4,none⟩=some (.bool ((Qc a1 a0).f4))∧w'.cell? ⟨a2,5,none⟩=some (.slice b1 ((Qc a1 a0).f5).length b2)∧w'.cell? ⟨b0,0,none⟩=some (.bool c9)∧w'.cell? ⟨b0,1,none⟩=some (.bool c0)∧w'.cell? ⟨b0,2,none⟩=some (.int .i64 b4)∧w'.cell? ⟨b0,3,none⟩=some (.int .i64 b8)∧w'.cell? ⟨b0,4,none⟩=some (.int .i64 b9)∧w'.cell? ⟨b0,5,none⟩=some (.slice (some a9) a1.length d0)∧w'.cell? (a9.add (((b3)).toNat * 6))=some (.int .i64 ((Qc a1 (b3)).f0))∧w'.cell? ⟨(a9.add (((b3)).toNat * 6)).block,(a9.add (((b3)).toNat * 6)).off+1,none⟩=some (.int .i64 ((Qc a1 (b3)).f1))∧w'.cell? ⟨(a9.add (((b3)).toNat * 6)).block,(a9.add (((b3)).toNat * 6)).off+2,none⟩=some (.bool ((Qc a1 (b3)).f2))∧w'.cell? ⟨(a9.add (((b3)).toNat * 6)).block,(a9.add (((b3)).toNat * 6)).off+3,none⟩=some (.slice w6 ((Qc a1 (b3)).f3).length w7)∧w'.cell? ⟨(a9.add (((b3)).toNat * 6)).block,(a9.add (((b3)).toNat * 6)).off+4,none⟩=some (.bool ((Qc a1 (b3)).f4))∧w'.cell? ⟨(a9.add (((b3)).toNat * 6)).block,(a9.add (((b3)).toNat * 6)).off+5,none⟩=some (.slice w8 ((Qc a1 (b3)).f5).length w9)) (ds:=[]) (zzB 19 0) (by kernel_rfl) rfl rfl ⟨(zzk a4.out 0).trans rfl,(zzk a4.out 1).trans rfl,(zzk a4.out 2).trans rfl,(zzk a4.out 3).trans rfl,(zzk a4.out 4).trans rfl,(zzk a4.out 5).trans rfl,(zzk a3.out 0).trans rfl,(zzk a3.out 1).trans rfl,(zzk a3.out 2).trans rfl,(zzk a3.out 3).trans rfl,(zzk a3.out 4).trans rfl,(zzk a3.out 5).trans rfl,(zzx HB.out h5),(zzx HB.out h4),(zzx HB.out h3),(zzx HB.out h2),(zzx HB.out h1),(zzx HB.out h0)⟩ (fun d1=>?_);refine with_tabW Qe.tab11 Qe.bits11 (fun a8 h6=>?_);generalize L6.drew=N6 at a3 a4 HB s6 s7 e3 e4 e5 e6 e7 e8 d1 ⊢;refine zzT 0 59 19 1 a8 h6 d1 ?_
                refine one_ (i:=1) (N:=some 60) (zzB 19 3) rfl rfl (one_of a8.out (by kernel_rfl)) (by decide) (fun K hK=>?_);refine goes_ Try.func41 (by kernel_rfl) rfl #[.agg #[.int .i64 ((Qc a1 a0).f0),.int .i64 ((Qc a1 a0).f1),.bool ((Qc a1 a0).f2),.slice a6 ((Qc a1 a0).f3).length a7,.bool ((Qc a1 a0).f4),.slice b1 ((Qc a1 a0).f5).length b2]] (by rfl) rfl rfl zzM2 ?_;with_reducible refine (Rd.calls k3 ((Qc a1 a0).f0) ((Qc a1 a0).f1) ((Qc a1 a0).f2) _ _ ((Qc a1 a0).f3) ((Qc a1 a0).f4) _ _ ((Qc a1 a0).f5) true _ ?side1 ?side2 ?side3 ?side4 C1.out).mono ?_
                (case side1=>exact zzcb g1 HB)
                (case side2=>exact g2.out)
                (case side3=>exact zzcb g3 HB)
                (case side4=>exact g4.out);rintro e N7 ⟨rfl,hb⟩;refine ⟨_,rfl,?_⟩;have b5:=zzm (zzh (g:=b0) (o:=.cells #[.bool c9,.bool c0,.int .i64 b4,.int .i64 b8,.int .i64 b9,.slice (some a9) a1.length d0] 26 (0,0)) (zzE a3.out) hb);have b6:=zzm (zzh (g:=a2) (o:=.cells #[.int .i64 ((Qc a1 a0).f0),.int .i64 ((Qc a1 a0).f1),.bool ((Qc a1 a0).f2),.slice a6 ((Qc a1 a0).f3).length a7,.bool ((Qc a1 a0).f4),.slice b1 ((Qc a1 a0).f5).length b2] 75 (0,0)) (zzE a4.out) hb);have b7:=zzm (zzp zzh2 hb);clear a3 a4 HB;have a3:=b5;have a4:=b6;have HB:=b7;clear b5 b6 b7
                (try clear hb)
                (try clear hb2)
                (try clear hk)
                (try clear hi);refine hK.out _ _ ⟨(zzk a4.out 0).trans rfl,(zzk a4.out 1).trans rfl,(zzk a4.out 2).trans rfl,(zzk a4.out 3).trans rfl,(zzk a4.out 4).trans rfl,(zzk a4.out 5).trans rfl,(zzk a3.out 0).trans rfl,(zzk a3.out 1).trans rfl,(zzk a3.out 2).trans rfl,(zzk a3.out 3).trans rfl,(zzk a3.out 4).trans rfl,(zzk a3.out 5).trans rfl,(zzx HB.out h5),(zzx HB.out h4),(zzx HB.out h3),(zzx HB.out h2),(zzx HB.out h1),(zzx HB.out h0)⟩ (fun d1=>?_);clear hK K;refine zzO 60 ?_
                refine zzP 2 61 19 7 a8 ?_
                refine zzP 3 62 19 15 a8 ?_
                refine zzP 4 63 19 31 a8 ?_
                refine zzP 5 64 19 63 a8 ?_
                refine zzP 6 65 19 127 a8 ?_
                refine zzP 7 66 19 255 a8 ?_
                refine zzP 9 68 19 767 a8 ?_
                refine zzP 10 69 19 1791 a8 ?_
                refine zzP 14 73 19 18175 a8 ?_
                refine zzT 8 67 19 18431 a8 h6 d1 ?_
                refine zzP 11 70 19 20479 a8 ?_
                refine zzP 12 71 19 24575 a8 ?_
                refine zzT 13 72 19 32767 a8 h6 d1 ?_
                refine zzT 15 74 19 65535 a8 h6 d1 ?_
                refine zzP 16 75 19 131071 a8 ?_
                refine zzP 17 76 19 262143 a8 ?_
                refine zzP 18 77 19 524287 a8 ?_
                refine done_ (done_of a8.out (by kernel_rfl)) ?_;try go_wp2
                go_roundg k3
                case measure=>have:=HJ1.out;have:=HJ22.out;have:=HK3.out;omega
                case rel=>exact ⟨(wrap64 (a0+1)),(by first|rfl|(simp;done)|(simp [*];done)),H',⟨by have:=HJ1.out;have:=HJ22.out;have:=HK3.out;omega⟩,⟨zzE a3.out⟩,⟨zzh3⟩⟩
              ·
               rw [if_neg D4] at H;exact absurd H (by simp)
             ·
              rw [if_neg D3] at H;exact absurd H (by simp)
            ·
             rw [if_neg A9] at H;have F8:decide (0 < a0)=false:=decide_eq_false A9;clear A9;have H':=zzm H;clear H;have e9 : 0≤(a0:Int):=zzt;have g0:a0 < (a1.length:Int):=zzt;obtain ⟨a9,a6,a7,b1,b2,j4,d2,d3,d4,d5,d6,d7,d8,d9,e0,e1⟩:=Ro j3.out a0 e9 g0;cases j4;replace d2:=zzx HB.out d2;replace d3:=zzx HB.out d3;replace d4:=zzx HB.out d4;replace d5:=zzx HB.out d5;replace d6:=zzx HB.out d6;replace d7:=zzx HB.out d7;have g1:=zzm d9;have g2:=zzm d8;clear d9 d8;have g3:=zzm e1;have g4:=zzm e0;clear e1 e0;replace e9:=eq_true e9;replace g0:=eq_true g0;try go_wp2_with (first|((with_reducible refine gate_dst (N:=4) rfl ?_);(try (refine gate_guard (by rfl) ?_;dsimp only));refine box_event ?hg (N:=4) ?hd (cs:=#[.int .i64 0,.int .i64 0,.bool false,.slice none 0 0,.bool false,.slice none 0 0]) (t:=75) ?hr ?_;(case hd=>rfl);(case hg=>rfl);(case hr=>first|(go_simp;done)|(go_simp;rfl));intro a2 hg D7 hbox hb;have b5:=zzm (zzh (g:=b0) (o:=.cells #[.bool c9,.bool c0,.int .i64 b4,.int .i64 b8,.int .i64 b9,.slice (some a9) a1.length d0] 26 (0,0)) (zzE a3.out) hb);have b6:=zzm (zzp zzh2 hb);have b7:=zzm (hbox);have g5:=zzm ((by rw [hg];exact (zzo zzh2):w.heap.size≤a2));have h8:=zzm ((by rw [hg];exact (zzo zzh2):w.heap.size≤a2));have h9:=zzm ((by rw [hg];exact Nat.ne_of_lt (blk_lt (g:=b0) (o:=.cells #[.bool c9,.bool c0,.int .i64 b4,.int .i64 b8,.int .i64 b9,.slice (some a9) a1.length d0] 26 (0,0)) (zzE a3.out)):b0≠a2));have j2:=zzm ((by rw [hg];exact Nat.ne_of_gt (blk_lt (g:=b0) (o:=.cells #[.bool c9,.bool c0,.int .i64 b4,.int .i64 b8,.int .i64 b9,.slice (some a9) a1.length d0] 26 (0,0)) (zzE a3.out)):a2≠b0));clear a3 HB;have a3:=b5;have HB:=b6;have a4:=b7;have B7:=g5;have B8:=h8;have a5:=h9;have e2:=j2;clear b5 b6 b7 g5 h8 h9 j2 hb hbox hg;have N0:=e2.out;have N1:=a5.out;obtain ⟨I8,I9,J0,J1,J2,J3,J4,J5,J6,J7,J8,J9⟩:=zzc6 a4.out))
             have b5:Aside0 (((((((D7.setCell ⟨a2,0,none⟩ (.int .i64 ((Qc a1 a0).f0))).setCell ⟨a2,1,none⟩ (.int .i64 ((Qc a1 a0).f1))).setCell ⟨a2,2,none⟩ (.bool ((Qc a1 a0).f2))).setCell ⟨a2,3,none⟩ (.slice a6 ((Qc a1 a0).f3).length a7)).setCell ⟨a2,4,none⟩ (.bool ((Qc a1 a0).f4))).setCell ⟨a2,5,none⟩ (.slice b1 ((Qc a1 a0).f5).length b2)).heap[b0]? = some (.cells #[.bool c9,.bool c0,.int .i64 b4,.int .i64 b8,.int .i64 b9,.slice (some a9) a1.length d0] 26 (0,0))):=⟨by (with_reducible repeat (first|apply zzf|apply zzg|apply zze));refine zzj ?_ a5.out _;(with_reducible repeat (first|apply zzf|apply zzg|apply zze));refine zzj ?_ a5.out _;(with_reducible repeat (first|apply zzf|apply zzg|apply zze));refine zzj ?_ a5.out _;(with_reducible repeat (first|apply zzf|apply zzg|apply zze));refine zzj ?_ a5.out _;(with_reducible repeat (first|apply zzf|apply zzg|apply zze));refine zzj ?_ a5.out _;(with_reducible repeat (first|apply zzf|apply zzg|apply zze));refine zzj ?_ a5.out _;(with_reducible repeat (first|apply zzf|apply zzg|apply zze));exact a3.out⟩;have b6:Aside0 (((((((D7.setCell ⟨a2,0,none⟩ (.int .i64 ((Qc a1 a0).f0))).setCell ⟨a2,1,none⟩ (.int .i64 ((Qc a1 a0).f1))).setCell ⟨a2,2,none⟩ (.bool ((Qc a1 a0).f2))).setCell ⟨a2,3,none⟩ (.slice a6 ((Qc a1 a0).f3).length a7)).setCell ⟨a2,4,none⟩ (.bool ((Qc a1 a0).f4))).setCell ⟨a2,5,none⟩ (.slice b1 ((Qc a1 a0).f5).length b2)).heap[a2]? = some (.cells #[.int .i64 ((Qc a1 a0).f0),.int .i64 ((Qc a1 a0).f1),.bool ((Qc a1 a0).f2),.slice a6 ((Qc a1 a0).f3).length a7,.bool ((Qc a1 a0).f4),.slice b1 ((Qc a1 a0).f5).length b2] 75 (0,0))):=⟨by (with_reducible repeat (first|apply zzf|apply zzg|apply zze));refine zzi (cs:=#[.int .i64 ((Qc a1 a0).f0),.int .i64 ((Qc a1 a0).f1),.bool ((Qc a1 a0).f2),.slice a6 ((Qc a1 a0).f3).length a7,.bool ((Qc a1 a0).f4),.slice none 0 0]) ?_ 5 _ rfl;refine zzi (cs:=#[.int .i64 ((Qc a1 a0).f0),.int .i64 ((Qc a1 a0).f1),.bool ((Qc a1 a0).f2),.slice a6 ((Qc a1 a0).f3).length a7,.bool false,.slice none 0 0]) ?_ 4 _ rfl;refine zzi (cs:=#[.int .i64 ((Qc a1 a0).f0),.int .i64 ((Qc a1 a0).f1),.bool ((Qc a1 a0).f2),.slice none 0 0,.bool false,.slice none 0 0]) ?_ 3 _ rfl;refine zzi (cs:=#[.int .i64 ((Qc a1 a0).f0),.int .i64 ((Qc a1 a0).f1),.bool false,.slice none 0 0,.bool false,.slice none 0 0]) ?_ 2 _ rfl;refine zzi (cs:=#[.int .i64 ((Qc a1 a0).f0),.int .i64 0,.bool false,.slice none 0 0,.bool false,.slice none 0 0]) ?_ 1 _ rfl;refine zzi (cs:=#[.int .i64 0,.int .i64 0,.bool false,.slice none 0 0,.bool false,.slice none 0 0]) ?_ 0 _ rfl;(with_reducible repeat (first|apply zzf|apply zzg|apply zze));exact a4.out⟩;have b7:Aside0 (Below w.heap.size w ((((((D7.setCell ⟨a2,0,none⟩ (.int .i64 ((Qc a1 a0).f0))).setCell ⟨a2,1,none⟩ (.int .i64 ((Qc a1 a0).f1))).setCell ⟨a2,2,none⟩ (.bool ((Qc a1 a0).f2))).setCell ⟨a2,3,none⟩ (.slice a6 ((Qc a1 a0).f3).length a7)).setCell ⟨a2,4,none⟩ (.bool ((Qc a1 a0).f4))).setCell ⟨a2,5,none⟩ (.slice b1 ((Qc a1 a0).f5).length b2))):=⟨zzh3⟩
             (try clear a3)
             (try clear a4)
             (try clear HB);generalize ((((((D7.setCell ⟨a2,0,none⟩ (.int .i64 ((Qc a1 a0).f0))).setCell ⟨a2,1,none⟩ (.int .i64 ((Qc a1 a0).f1))).setCell ⟨a2,2,none⟩ (.bool ((Qc a1 a0).f2))).setCell ⟨a2,3,none⟩ (.slice a6 ((Qc a1 a0).f3).length a7)).setCell ⟨a2,4,none⟩ (.bool ((Qc a1 a0).f4))).setCell ⟨a2,5,none⟩ (.slice b1 ((Qc a1 a0).f5).length b2))=L7 at b5 b6 b7 ⊢;have a3:=b5;have a4:=b6;have HB:=b7;clear b5 b6 b7;have b5:=zzm (zzg a3.out);have b6:=zzm (zzg a4.out);have b7:=zzm (zzc HB.out);clear a3 a4 HB;have a3:=b5;have a4:=b6;have HB:=b7;clear b5 b6 b7;refine start_ (n:=19) (S:=fun w'=>w'.cell? ⟨a2,0,none⟩=some (.int .i64 ((Qc a1 a0).f0))∧w'.cell? ⟨a2,1,none⟩=some (.int .i64 ((Qc a1 a0).f1))∧w'.cell? ⟨a2,2,none⟩=some (.bool ((Qc a1 a0).f2))∧w'.cell? ⟨a2,3,none⟩=some (.slice a6 ((Qc a1 a0).f3).length a7)∧w'.cell? ⟨a2,4,none⟩=some (.bool ((Qc a1 a0).f4))∧w'.cell? ⟨a2,5,none⟩=some (.slice b1 ((Qc a1 a0).f5).length b2)) (ds:=[]) (zzB 19 0) (by kernel_rfl) rfl rfl ⟨(zzk a4.out 0).trans rfl,(zzk a4.out 1).trans rfl,(zzk a4.out 2).trans rfl,(zzk a4.out 3).trans rfl,(zzk a4.out 4).trans rfl,(zzk a4.out 5).trans rfl⟩ (fun d1=>?_);refine with_tabW Qe.tab11 Qe.bits11 (fun a8 h6=>?_);generalize L7.drew=N8 at a3 a4 HB d1 ⊢;refine zzT 0 59 19 1 a8 h6 d1 ?_
             refine one_ (i:=1) (N:=some 60) (zzB 19 3) rfl rfl (one_of a8.out (by kernel_rfl)) (by decide) (fun K hK=>?_);refine goes_ Try.func41 (by kernel_rfl) rfl #[.agg #[.int .i64 ((Qc a1 a0).f0),.int .i64 ((Qc a1 a0).f1),.bool ((Qc a1 a0).f2),.slice a6 ((Qc a1 a0).f3).length a7,.bool ((Qc a1 a0).f4),.slice b1 ((Qc a1 a0).f5).length b2]] (by rfl) rfl rfl zzM2 ?_;with_reducible refine (Rd.calls k3 ((Qc a1 a0).f0) ((Qc a1 a0).f1) ((Qc a1 a0).f2) _ _ ((Qc a1 a0).f3) ((Qc a1 a0).f4) _ _ ((Qc a1 a0).f5) true _ ?side1 ?side2 ?side3 ?side4 C1.out).mono ?_
             (case side1=>exact zzcb g1 HB)
             (case side2=>exact g2.out)
             (case side3=>exact zzcb g3 HB)
             (case side4=>exact g4.out);rintro e N9 ⟨rfl,hb⟩;refine ⟨_,rfl,?_⟩;have b5:=zzm (zzh (g:=b0) (o:=.cells #[.bool c9,.bool c0,.int .i64 b4,.int .i64 b8,.int .i64 b9,.slice (some a9) a1.length d0] 26 (0,0)) (zzE a3.out) hb);have b6:=zzm (zzh (g:=a2) (o:=.cells #[.int .i64 ((Qc a1 a0).f0),.int .i64 ((Qc a1 a0).f1),.bool ((Qc a1 a0).f2),.slice a6 ((Qc a1 a0).f3).length a7,.bool ((Qc a1 a0).f4),.slice b1 ((Qc a1 a0).f5).length b2] 75 (0,0)) (zzE a4.out) hb);have b7:=zzm (zzp zzh2 hb);clear a3 a4 HB;have a3:=b5;have a4:=b6;have HB:=b7;clear b5 b6 b7
             (try clear hb)
             (try clear hb2)
             (try clear hk)
             (try clear hi);refine hK.out _ _ ⟨(zzk a4.out 0).trans rfl,(zzk a4.out 1).trans rfl,(zzk a4.out 2).trans rfl,(zzk a4.out 3).trans rfl,(zzk a4.out 4).trans rfl,(zzk a4.out 5).trans rfl⟩ (fun d1=>?_);clear hK K;refine zzO 60 ?_
             refine zzP 2 61 19 7 a8 ?_
             refine zzP 3 62 19 15 a8 ?_
             refine zzP 4 63 19 31 a8 ?_
             refine zzP 5 64 19 63 a8 ?_
             refine zzP 6 65 19 127 a8 ?_
             refine zzU 7 66 19 255 a8 ?_
             refine zzU 8 67 19 511 a8 ?_
             refine zzU 9 68 19 1023 a8 ?_
             refine zzU 10 69 19 2047 a8 ?_
             refine zzU 11 70 19 4095 a8 ?_
             refine zzU 12 71 19 8191 a8 ?_
             refine zzU 13 72 19 16383 a8 ?_
             refine zzU 14 73 19 32767 a8 ?_
             refine zzU 15 74 19 65535 a8 ?_
             refine zzU 16 75 19 131071 a8 ?_
             refine zzP 17 76 19 262143 a8 ?_
             refine zzP 18 77 19 524287 a8 ?_
             refine done_ (done_of a8.out (by kernel_rfl)) ?_;try go_wp2
             go_roundg k3
             case measure=>have:=HJ1.out;have:=HJ22.out;have:=HK3.out;omega
             case rel=>exact ⟨(wrap64 (a0+1)),(by first|rfl|(simp;done)|(simp [*];done)),H',⟨by have:=HJ1.out;have:=HJ22.out;have:=HK3.out;omega⟩,⟨zzE a3.out⟩,⟨zzh3⟩⟩
           ·
            replace D2:=Bool.eq_false_iff.mpr D2;subst D2;replace H:=zzIf H;obtain rfl:=Option.some.inj H;have e9 : 0≤(a0:Int):=zzt;have g0:a0 < (a1.length:Int):=zzt;obtain ⟨a9,a6,a7,b1,b2,j4,d2,d3,d4,d5,d6,d7,d8,d9,e0,e1⟩:=Ro j3.out a0 e9 g0;cases j4;replace d2:=zzx HB.out d2;replace d3:=zzx HB.out d3;replace d4:=zzx HB.out d4;replace d5:=zzx HB.out d5;replace d6:=zzx HB.out d6;replace d7:=zzx HB.out d7;have g1:=zzm d9;have g2:=zzm d8;clear d9 d8;have g3:=zzm e1;have g4:=zzm e0;clear e1 e0;replace e9:=eq_true e9;replace g0:=eq_true g0;try go_wp2_with (first|((with_reducible refine gate_dst (N:=4) rfl ?_);(try (refine gate_guard (by rfl) ?_;dsimp only));refine box_event ?hg (N:=4) ?hd (cs:=#[.int .i64 0,.int .i64 0,.bool false,.slice none 0 0,.bool false,.slice none 0 0]) (t:=75) ?hr ?_;(case hd=>rfl);(case hg=>rfl);(case hr=>first|(go_simp;done)|(go_simp;rfl));intro a2 hg D8 hbox hb;have b5:=zzm (zzh (g:=b0) (o:=.cells #[.bool c9,.bool c0,.int .i64 b4,.int .i64 b8,.int .i64 b9,.slice (some a9) a1.length d0] 26 (0,0)) (zzE a3.out) hb);have b6:=zzm (zzp zzh2 hb);have b7:=zzm (hbox);have g5:=zzm ((by rw [hg];exact (zzo zzh2):w.heap.size≤a2));have h8:=zzm ((by rw [hg];exact (zzo zzh2):w.heap.size≤a2));have h9:=zzm ((by rw [hg];exact Nat.ne_of_lt (blk_lt (g:=b0) (o:=.cells #[.bool c9,.bool c0,.int .i64 b4,.int .i64 b8,.int .i64 b9,.slice (some a9) a1.length d0] 26 (0,0)) (zzE a3.out)):b0≠a2));have j2:=zzm ((by rw [hg];exact Nat.ne_of_gt (blk_lt (g:=b0) (o:=.cells #[.bool c9,.bool c0,.int .i64 b4,.int .i64 b8,.int .i64 b9,.slice (some a9) a1.length d0] 26 (0,0)) (zzE a3.out)):a2≠b0));clear a3 HB;have a3:=b5;have HB:=b6;have a4:=b7;have B7:=g5;have B8:=h8;have a5:=h9;have e2:=j2;clear b5 b6 b7 g5 h8 h9 j2 hb hbox hg;have N2:=e2.out;have N3:=a5.out;obtain ⟨K0,K1,K2,K3,K4,K5,K6,K7,K8,K9,L0,L1⟩:=zzc6 a4.out))
            have b5:Aside0 (((((((D8.setCell ⟨a2,0,none⟩ (.int .i64 ((Qc a1 a0).f0))).setCell ⟨a2,1,none⟩ (.int .i64 ((Qc a1 a0).f1))).setCell ⟨a2,2,none⟩ (.bool ((Qc a1 a0).f2))).setCell ⟨a2,3,none⟩ (.slice a6 ((Qc a1 a0).f3).length a7)).setCell ⟨a2,4,none⟩ (.bool ((Qc a1 a0).f4))).setCell ⟨a2,5,none⟩ (.slice b1 ((Qc a1 a0).f5).length b2)).heap[b0]? = some (.cells #[.bool c9,.bool c0,.int .i64 b4,.int .i64 b8,.int .i64 b9,.slice (some a9) a1.length d0] 26 (0,0))):=⟨by (with_reducible repeat (first|apply zzf|apply zzg|apply zze));refine zzj ?_ a5.out _;(with_reducible repeat (first|apply zzf|apply zzg|apply zze));refine zzj ?_ a5.out _;(with_reducible repeat (first|apply zzf|apply zzg|apply zze));refine zzj ?_ a5.out _;(with_reducible repeat (first|apply zzf|apply zzg|apply zze));refine zzj ?_ a5.out _;(with_reducible repeat (first|apply zzf|apply zzg|apply zze));refine zzj ?_ a5.out _;(with_reducible repeat (first|apply zzf|apply zzg|apply zze));refine zzj ?_ a5.out _;(with_reducible repeat (first|apply zzf|apply zzg|apply zze));exact a3.out⟩;have b6:Aside0 (((((((D8.setCell ⟨a2,0,none⟩ (.int .i64 ((Qc a1 a0).f0))).setCell ⟨a2,1,none⟩ (.int .i64 ((Qc a1 a0).f1))).setCell ⟨a2,2,none⟩ (.bool ((Qc a1 a0).f2))).setCell ⟨a2,3,none⟩ (.slice a6 ((Qc a1 a0).f3).length a7)).setCell ⟨a2,4,none⟩ (.bool ((Qc a1 a0).f4))).setCell ⟨a2,5,none⟩ (.slice b1 ((Qc a1 a0).f5).length b2)).heap[a2]? = some (.cells #[.int .i64 ((Qc a1 a0).f0),.int .i64 ((Qc a1 a0).f1),.bool ((Qc a1 a0).f2),.slice a6 ((Qc a1 a0).f3).length a7,.bool ((Qc a1 a0).f4),.slice b1 ((Qc a1 a0).f5).length b2] 75 (0,0))):=⟨by (with_reducible repeat (first|apply zzf|apply zzg|apply zze));refine zzi (cs:=#[.int .i64 ((Qc a1 a0).f0),.int .i64 ((Qc a1 a0).f1),.bool ((Qc a1 a0).f2),.slice a6 ((Qc a1 a0).f3).length a7,.bool ((Qc a1 a0).f4),.slice none 0 0]) ?_ 5 _ rfl;refine zzi (cs:=#[.int .i64 ((Qc a1 a0).f0),.int .i64 ((Qc a1 a0).f1),.bool ((Qc a1 a0).f2),.slice a6 ((Qc a1 a0).f3).length a7,.bool false,.slice none 0 0]) ?_ 4 _ rfl;refine zzi (cs:=#[.int .i64 ((Qc a1 a0).f0),.int .i64 ((Qc a1 a0).f1),.bool ((Qc a1 a0).f2),.slice none 0 0,.bool false,.slice none 0 0]) ?_ 3 _ rfl;refine zzi (cs:=#[.int .i64 ((Qc a1 a0).f0),.int .i64 ((Qc a1 a0).f1),.bool false,.slice none 0 0,.bool false,.slice none 0 0]) ?_ 2 _ rfl;refine zzi (cs:=#[.int .i64 ((Qc a1 a0).f0),.int .i64 0,.bool false,.slice none 0 0,.bool false,.slice none 0 0]) ?_ 1 _ rfl;refine zzi (cs:=#[.int .i64 0,.int .i64 0,.bool false,.slice none 0 0,.bool false,.slice none 0 0]) ?_ 0 _ rfl;(with_reducible repeat (first|apply zzf|apply zzg|apply zze));exact a4.out⟩;have b7:Aside0 (Below w.heap.size w ((((((D8.setCell ⟨a2,0,none⟩ (.int .i64 ((Qc a1 a0).f0))).setCell ⟨a2,1,none⟩ (.int .i64 ((Qc a1 a0).f1))).setCell ⟨a2,2,none⟩ (.bool ((Qc a1 a0).f2))).setCell ⟨a2,3,none⟩ (.slice a6 ((Qc a1 a0).f3).length a7)).setCell ⟨a2,4,none⟩ (.bool ((Qc a1 a0).f4))).setCell ⟨a2,5,none⟩ (.slice b1 ((Qc a1 a0).f5).length b2))):=⟨zzh3⟩
            (try clear a3)
            (try clear a4)
            (try clear HB);generalize ((((((D8.setCell ⟨a2,0,none⟩ (.int .i64 ((Qc a1 a0).f0))).setCell ⟨a2,1,none⟩ (.int .i64 ((Qc a1 a0).f1))).setCell ⟨a2,2,none⟩ (.bool ((Qc a1 a0).f2))).setCell ⟨a2,3,none⟩ (.slice a6 ((Qc a1 a0).f3).length a7)).setCell ⟨a2,4,none⟩ (.bool ((Qc a1 a0).f4))).setCell ⟨a2,5,none⟩ (.slice b1 ((Qc a1 a0).f5).length b2))=L8 at b5 b6 b7 ⊢;have a3:=b5;have a4:=b6;have HB:=b7;clear b5 b6 b7;have b5:=zzm (zzg a3.out);have b6:=zzm (zzg a4.out);have b7:=zzm (zzc HB.out);clear a3 a4 HB;have a3:=b5;have a4:=b6;have HB:=b7;clear b5 b6 b7;refine start_ (n:=19) (S:=fun w'=>w'.cell? ⟨a2,0,none⟩=some (.int .i64 ((Qc a1 a0).f0))∧w'.cell? ⟨a2,1,none⟩=some (.int .i64 ((Qc a1 a0).f1))∧w'.cell? ⟨a2,2,none⟩=some (.bool ((Qc a1 a0).f2))∧w'.cell? ⟨a2,3,none⟩=some (.slice a6 ((Qc a1 a0).f3).length a7)∧w'.cell? ⟨a2,4,none⟩=some (.bool ((Qc a1 a0).f4))∧w'.cell? ⟨a2,5,none⟩=some (.slice b1 ((Qc a1 a0).f5).length b2)) (ds:=[]) (zzB 19 0) (by kernel_rfl) rfl rfl ⟨(zzk a4.out 0).trans rfl,(zzk a4.out 1).trans rfl,(zzk a4.out 2).trans rfl,(zzk a4.out 3).trans rfl,(zzk a4.out 4).trans rfl,(zzk a4.out 5).trans rfl⟩ (fun d1=>?_);refine with_tabW Qe.tab11 Qe.bits11 (fun a8 h6=>?_);generalize L8.drew=O0 at a3 a4 HB d1 ⊢;refine zzT 0 59 19 1 a8 h6 d1 ?_
            refine one_ (i:=1) (N:=some 60) (zzB 19 3) rfl rfl (one_of a8.out (by kernel_rfl)) (by decide) (fun K hK=>?_);refine goes_ Try.func41 (by kernel_rfl) rfl #[.agg #[.int .i64 ((Qc a1 a0).f0),.int .i64 ((Qc a1 a0).f1),.bool ((Qc a1 a0).f2),.slice a6 ((Qc a1 a0).f3).length a7,.bool ((Qc a1 a0).f4),.slice b1 ((Qc a1 a0).f5).length b2]] (by rfl) rfl rfl zzM2 ?_;with_reducible refine (Rd.calls k3 ((Qc a1 a0).f0) ((Qc a1 a0).f1) ((Qc a1 a0).f2) _ _ ((Qc a1 a0).f3) ((Qc a1 a0).f4) _ _ ((Qc a1 a0).f5) false _ ?side1 ?side2 ?side3 ?side4 C1.out).mono ?_
            (case side1=>exact zzcb g1 HB)
            (case side2=>exact g2.out)
            (case side3=>exact zzcb g3 HB)
            (case side4=>exact g4.out);rintro e O1 ⟨rfl,hb⟩;refine ⟨_,rfl,?_⟩;have b5:=zzm (zzh (g:=b0) (o:=.cells #[.bool c9,.bool c0,.int .i64 b4,.int .i64 b8,.int .i64 b9,.slice (some a9) a1.length d0] 26 (0,0)) (zzE a3.out) hb);have b6:=zzm (zzh (g:=a2) (o:=.cells #[.int .i64 ((Qc a1 a0).f0),.int .i64 ((Qc a1 a0).f1),.bool ((Qc a1 a0).f2),.slice a6 ((Qc a1 a0).f3).length a7,.bool ((Qc a1 a0).f4),.slice b1 ((Qc a1 a0).f5).length b2] 75 (0,0)) (zzE a4.out) hb);have b7:=zzm (zzp zzh2 hb);clear a3 a4 HB;have a3:=b5;have a4:=b6;have HB:=b7;clear b5 b6 b7
            (try clear hb)
            (try clear hb2)
            (try clear hk)
            (try clear hi);refine hK.out _ _ ⟨(zzk a4.out 0).trans rfl,(zzk a4.out 1).trans rfl,(zzk a4.out 2).trans rfl,(zzk a4.out 3).trans rfl,(zzk a4.out 4).trans rfl,(zzk a4.out 5).trans rfl⟩ (fun d1=>?_);clear hK K;refine zzO 60 ?_
            refine zzP 2 61 19 7 a8 ?_
            refine zzP 3 62 19 15 a8 ?_
            refine zzU 4 63 19 31 a8 ?_
            refine zzU 5 64 19 63 a8 ?_
            refine zzU 6 65 19 127 a8 ?_
            refine zzU 7 66 19 255 a8 ?_
            refine zzU 8 67 19 511 a8 ?_
            refine zzU 9 68 19 1023 a8 ?_
            refine zzU 10 69 19 2047 a8 ?_
            refine zzU 11 70 19 4095 a8 ?_
            refine zzU 12 71 19 8191 a8 ?_
            refine zzU 13 72 19 16383 a8 ?_
            refine zzU 14 73 19 32767 a8 ?_
            refine zzU 15 74 19 65535 a8 ?_
            refine zzU 16 75 19 131071 a8 ?_
            refine zzU 17 76 19 262143 a8 ?_
            refine zzP 18 77 19 524287 a8 ?_
            refine done_ (done_of a8.out (by kernel_rfl)) ?_;try go_wp2
            go_ret;exact ⟨zzR,zzh3⟩
          ·
           rw [if_neg D1] at H;exact absurd H (by simp)
         ·
          rw [if_neg D0] at H;exact absurd H (by simp)
        ·
         rw [if_neg A8] at H;have F7:decide (a0 < (a1.length:Int))=false:=decide_eq_false A8;clear A8;obtain rfl:=Option.some.inj H;go_wp2;go_ret;exact ⟨zzR,zzh3⟩
theorem quiet_drawn {P:Program} {f:FuncId} {args:Array Value} {w:World} {n:Nat} {v:Value} (h:Calls P f args (w.drewN n) fun e w'=>e = .returned v∧Drawn0 (w.drewN n) w'):Calls P f args (w.drewN n) fun e w''=>e = .returned v∧∃ m,w'' = w.drewN m:=Calls.quiet_of (h.mono fun _ _ h_=>⟨h_.1,h_.2.out⟩)
def prodAt (l:List S67) (i:Nat):Bool:=decide (((0≤(Qd l (i:Int)).f0∧(Qd l (i:Int)).f0≤254)∧(0≤(Qd l (i:Int)).f1∧(Qd l (i:Int)).f1≤99)∧(0≤(Qd l (i:Int)).f2∧(Qd l (i:Int)).f2≤99999))∧(0 < i→(Qd l ((i:Int) - 1)).f0 < (Qd l (i:Int)).f0))
def prodsAll (l:List S67):Bool:=decide (l.length≤20)&&decide (∀ i,i < l.length→prodAt l i=true)
theorem prodsAll_no {l:List S67} {k:Nat} (hk:k < l.length) (h:prodAt l k=false):prodsAll l=false:=by
 unfold prodsAll;rw [Bool.and_eq_false_iff];exact .inr (by rw [decide_eq_false_iff_not];intro h2;rw [h2 k hk] at h;cases h)
theorem prodsAll_long {l:List S67} (h : 20 < l.length):prodsAll l=false:=by
 unfold prodsAll;rw [decide_eq_false (by omega),Bool.false_and]
theorem within_eqT (a b c:Int) (r:Bool) (h:decide (b≤a∧a≤c)=r):Qp.f a b c=some r:=by
 subst h;unfold Qp.f;by_cases h:a ≥ b
 ·
  rw [if_pos h];have:(b≤a∧a≤c)↔a≤c:=⟨fun h=>h.2,fun h'=>⟨h,h'⟩⟩;simp [this]
 ·
  rw [if_neg h];have:¬ (b≤a∧a≤c):=fun h'=>h h'.1;simp [this]
theorem idValid_eqT (a:Int) (r:Bool) (h:decide (0≤a∧a≤254)=r):Qv.f a=some r:=by
 unfold Qv.f;rw [within_eqT a 0 254 r h];rfl
def Qq.f (k:Nat) (l0:List S67):Option Bool:=some (prodsAll l0)
set_option maxHeartbeats 8000000 in
theorem Qq.calls (k:Nat) (A0:Option Addr) (c0:Nat) (l0:List (S67)) (r:Bool) (w:World) (a4:Kd.C k67 w A0 l0.length l0) (b5:l0.length≤c0) (h:Qq.f k l0=some r) :
  Calls Try.prog 32 #[.slice A0 l0.length c0] w fun e w'=>e = .returned (.bool r)∧Below w.heap.size w w':=by
 obtain rfl:=Option.some.inj h;clear h;have hmax:l0.length≤9223372036854775807:=a4.2.1;have HR:=zzm a4;have HB:=zzm (Below.refl w.heap.size w);clear a4;by_cases hlen : 20 < l0.length
 ·
  have HF:=zzm (prodsAll_long hlen);have hlen2:decide (20 < (l0.length:Int))=true:=decide_eq_true (by omega);go_enter Try.func32,Try.ntmps32;go_wp2;go_ret;exact ⟨by rw [HF.out];rfl,HB.out⟩
 ·
  have hlen2:decide (20 < (l0.length:Int))=false:=decide_eq_false (by omega);have hlen3:decide (20 < l0.length)=false:=decide_eq_false hlen;go_enter Try.func32,Try.ntmps32;go_wp2;go_loopw [10,3,4] (fun i i3 i4 W=>∃ k:Nat,k≤l0.length∧i = .int .i64 k∧Aside0 (∀ j,j < k→prodAt l0 j=true)∧Aside0 (Below w.heap.size w W)) (fun i _ _ _=>l0.length - (intOf i).toNat)
  case atStart=>exact ⟨0,Nat.zero_le _,rfl,⟨fun j hj=>by omega⟩,HB⟩
  case round=>
   clear HB;obtain ⟨k,hk,rfl,HN,HB⟩:=hrel;by_cases hlt:k < l0.length
   ·
    obtain ⟨ad,he,a0,a1,a2⟩:=Rf HR.out (k:Int) (by omega) (by omega);subst he;replace a0:=zzx HB.out a0;replace a1:=zzx HB.out a1;replace a2:=zzx HB.out a2;simp only [Int.toNat_natCast] at a0 a1 a2;have HP:Aside0 (prodAt l0 k=decide (((0≤(Qd l0 (k:Int)).f0∧(Qd l0 (k:Int)).f0≤254)∧(0≤(Qd l0 (k:Int)).f1∧(Qd l0 (k:Int)).f1≤99)∧(0≤(Qd l0 (k:Int)).f2∧(Qd l0 (k:Int)).f2≤99999))∧(0 < k→(Qd l0 ((k:Int) - 1)).f0 < (Qd l0 (k:Int)).f0))):=⟨rfl⟩;obtain ⟨p,hp⟩:∃ p,p=Qd l0 (k:Int):=⟨_,rfl⟩;simp only [← hp] at a0 a1 a2;rw [← hp] at HP;clear hp;obtain ⟨x,y,z⟩:=p;have HNO:=zzm (fun h=>prodsAll_no (l:=l0) hlt h);go_wp2_with ((with_reducible refine gate_dst (N:=4) rfl ?_);refine box_event ?hg (N:=4) ?hd (cs:=#[.int .i64 0,.int .i64 0,.int .i64 0]) (t:=67) ?hr ?_;(case hd=>rfl);(case hg=>rfl);(case hr=>first|(go_simp;done)|(go_simp;rfl));intro gb hg a9 hbox hb;have HB13:=zzm (zzp HB.out hb);have BK:=zzm hbox;have GE:=zzm (show w.heap.size≤gb by rw [hg];exact HB.out.size);clear hb hbox hg;have a6:=(zzk BK.out 0).trans rfl;have a7:=(zzk BK.out 1).trans rfl;have a8:=(zzk BK.out 2).trans rfl;have hf0:=zzl BK.out 0;have hf1:=zzl BK.out 1;have hf2:=zzl BK.out 2);have a3:=zzm (blk_set (blk_set (blk_set BK.out 0 (.int .i64 x)) 1 (.int .i64 y)) 2 (.int .i64 z));have HB2:=zzm (zzd (zzd (zzd HB13.out GE.out (j:=0) (v:=.int .i64 x)) GE.out (j:=1) (v:=.int .i64 y)) GE.out (j:=2) (v:=.int .i64 z));clear a6 a7 a8 hf0 hf1 hf2 BK HB13 a0 a1 a2 HB;generalize ((a9.setCell ⟨gb,0,none⟩ (.int .i64 x)).setCell ⟨gb,1,none⟩ (.int .i64 y)).setCell ⟨gb,2,none⟩ (.int .i64 z)=a5 at a3 HB2 ⊢;have d0:a5.cell? ⟨gb,0,none⟩=some (.int .i64 x):=(zzk a3.out 0).trans rfl;have d1:a5.cell? ⟨gb,1,none⟩=some (.int .i64 y):=(zzk a3.out 1).trans rfl;have d2:a5.cell? ⟨gb,2,none⟩=some (.int .i64 z):=(zzk a3.out 2).trans rfl;by_cases k0 : 0≤x∧x≤254
    ·
     have e0:=idValid_eqT x true (decide_eq_true k0);by_cases k1 : 0≤y∧y≤99
     ·
      have e1:=within_eqT y 0 99 true (decide_eq_true k1);by_cases k2 : 0≤z∧z≤99999
      ·
       have e2:=within_eqT z 0 99999 true (decide_eq_true k2);by_cases h0 : 0 < k
       ·
        obtain ⟨ad',he,hy0,_,_⟩:=Rf HR.out ((k:Int) - 1) (by omega) (by omega);injection he with he;subst he;replace hy0:=(HB2.out.cell (zzn w _ hy0)).trans hy0;rw [show ((k:Int) - 1).toNat=k - 1 by omega] at hy0;generalize (Qd l0 ((k:Int) - 1)).f0=q at hy0 HP;have hk0:decide (0 < (k:Int))=true:=decide_eq_true (by omega);have hk1:decide (0 < k)=true:=decide_eq_true h0;have b0:IntKind.i64.wrap ((k:Int) - 1)=(k:Int) - 1:=IntWalk.i64_in _ (by omega);have b1:((k:Int) - 1).toNat=k - 1:=by omega
        have b2:(0≤(k:Int) - 1)=True:=eq_true (by omega);have b3:(1≤(k:Int))=True:=eq_true (by omega);have b4:((k:Int) - 1 < (l0.length:Int))=True:=eq_true (by omega);by_cases hge:x≤q
        ·
         have hge2:decide (x≤q)=true:=decide_eq_true hge;have HF:=zzm (HNO.out (by rw [HP.out];exact decide_eq_false (fun h=>by have:=h.2 h0;omega)));clear HNO HP k0 k1 k2;go_quiet ((first|(go_at_call 39;with_reducible exact quiet_drawn (Qv.calls x true _ e0))|(go_at_call 40;with_reducible exact quiet_drawn (Qp.calls y 0 99 true _ e1))|(go_at_call 40;with_reducible exact quiet_drawn (Qp.calls z 0 99999 true _ e2))))
         go_wp2;go_ret;exact ⟨by rw [HF.out];rfl,zzb HB2.out _⟩
        ·
         have hge2:decide (x≤q)=false:=decide_eq_false hge;have HY:=zzm (show prodAt l0 k=true by rw [HP.out];exact decide_eq_true ⟨⟨k0,k1,k2⟩,fun _=>by omega⟩);clear HNO HP k0 k1 k2;go_quiet ((first|(go_at_call 39;with_reducible exact quiet_drawn (Qv.calls x true _ e0))|(go_at_call 40;with_reducible exact quiet_drawn (Qp.calls y 0 99 true _ e1))|(go_at_call 40;with_reducible exact quiet_drawn (Qp.calls z 0 99999 true _ e2))))
         clear b0 b1 b2 b4 b3;go_wp2;go_roundw
         case rel=>exact ⟨k+1,by omega,by go_num,⟨fun j hj=>by by_cases e:j=k;(subst e;exact HY.out);exact HN.out j (by omega)⟩,⟨zzb HB2.out _⟩⟩
         case measure=>simp [intOf];omega
       ·
        have hk0:decide (0 < (k:Int))=false:=decide_eq_false (by omega);have hk1:decide (0 < k)=false:=decide_eq_false h0;have HY:=zzm (show prodAt l0 k=true by rw [HP.out];exact decide_eq_true ⟨⟨k0,k1,k2⟩,fun h=>absurd h h0⟩);clear HNO HP k0 k1 k2;go_quiet ((first|(go_at_call 39;with_reducible exact quiet_drawn (Qv.calls x true _ e0))|(go_at_call 40;with_reducible exact quiet_drawn (Qp.calls y 0 99 true _ e1))|(go_at_call 40;with_reducible exact quiet_drawn (Qp.calls z 0 99999 true _ e2))))
        go_wp2;go_roundw
        case rel=>exact ⟨k+1,by omega,by go_num,⟨fun j hj=>by by_cases e:j=k;(subst e;exact HY.out);exact HN.out j (by omega)⟩,⟨zzb HB2.out _⟩⟩
        case measure=>simp [intOf];omega
      ·
       have e2:=within_eqT z 0 99999 false (decide_eq_false k2);have HF:=zzm (HNO.out (by rw [HP.out];exact decide_eq_false (fun h=>k2 h.1.2.2)));clear HNO HP k0 k1 k2;go_quiet ((first|(go_at_call 39;with_reducible exact quiet_drawn (Qv.calls x true _ e0))|(go_at_call 40;with_reducible exact quiet_drawn (Qp.calls y 0 99 true _ e1))|(go_at_call 40;with_reducible exact quiet_drawn (Qp.calls z 0 99999 false _ e2))))
       go_wp2;go_ret;exact ⟨by rw [HF.out];rfl,zzb HB2.out _⟩
     ·
      have e1:=within_eqT y 0 99 false (decide_eq_false k1);have HF:=zzm (HNO.out (by rw [HP.out];exact decide_eq_false (fun h=>k1 h.1.2.1)));clear HNO HP k0 k1;go_quiet ((first|(go_at_call 39;with_reducible exact quiet_drawn (Qv.calls x true _ e0))|(go_at_call 40;with_reducible exact quiet_drawn (Qp.calls y 0 99 false _ e1))))
      go_wp2;go_ret;exact ⟨by rw [HF.out];rfl,zzb HB2.out _⟩
    ·
     have e0:=idValid_eqT x false (decide_eq_false k0);have HF:=zzm (HNO.out (by rw [HP.out];exact decide_eq_false (fun h=>k0 h.1.1)));clear HNO HP k0;go_quiet ((go_at_call 39;with_reducible exact quiet_drawn (Qv.calls x false _ e0)))
     go_wp2;go_ret;exact ⟨by rw [HF.out];rfl,zzb HB2.out _⟩
   ·
    have hk2:k=l0.length:=by omega
    have HF:=zzm (show prodsAll l0=true by unfold prodsAll;rw [decide_eq_true (show l0.length≤20 by omega),Bool.true_and];exact decide_eq_true (fun i hi=>HN.out i (by omega)));go_wp2;go_ret;exact ⟨by rw [HF.out];rfl,HB.out⟩
end Go.Proofs.Ytmophgccpnpgfaa.T
