/- The law FnStableDecide holds (part 3 of 7; merged by pack2.py). -/
import Derived.Test.YticpnjhkdfdkkaaFnStableDecideK1
open List (setIfInBounds_toArray set_cons_zero set_cons_succ map_toArray map_cons map_nil length_drop length_take)
namespace Go.Proofs.Yticpnjhkdfdkkaa.T
open Go.RowKit Go.Proofs.YticpnjhkdfdkkaaW.PrintWords Go.Proofs.YticpnjhkdfdkkaaW.PrintLast Go.Proofs.YticpnjhkdfdkkaaW.PrintMore
attribute [local go_sem] max2_int max_two
set_option linter.unusedVariables false
set_option linter.unusedSimpArgs false
mutual
def spec_l92Decided.l0:Nat→List (S27)→Int→Int→Int→List Int→Int→Option ((List (S27))×Int)
 | 0,_,_,_,_,_,_=>none
 | k+1,x3,x4,x5,x6,x1000,x1001=>if x6 < x4 then ((spec_l6Rd_pick.f k x1000 x1001 2).bind fun bt198=>((spec_l91Records.f k x1000 bt198.2 x5 2).bind fun bt200=>((spec_l6Rd_pick.f k x1000 bt200.2 6).bind fun bt205=>(if bt205.1=0 then (spec_l92Decided.j1 k x3 x4 x5 x6 bt205.1 (bt205.1==0) x1000 bt205.2 false false bt198.1 0 0 bt200.1) else (spec_l92Decided.j1 k x3 x4 x5 x6 bt205.1 (bt205.1==1) x1000 bt205.2 false false bt198.1 0 0 bt200.1))))) else ((spec_l6Rd_pick.f k x1000 x1001 24).bind fun bt195=>(if bt195.1=0 then (if 0 < (x3.length:Int) then (some ((x3.set (0:Int).toNat (⟨(rd_T27 x3 0).f0,(rd_T27 x3 0).f1,(rd_T27 x3 0).f2,100,(rd_T27 x3 0).f4,(rd_T27 x3 0).f5⟩:S27)),bt195.2)) else (none)) else (some (x3,bt195.2))))
def spec_l92Decided.j1:Nat→List (S27)→Int→Int→Int→Int→Bool→List Int→Int→Bool→Bool→Int→Int→Int→List (S34)→Option ((List (S27))×Int)
 | 0,_,_,_,_,_,_,_,_,_,_,_,_,_,_=>none
 | k+1,x3,x4,x5,x6,x28,x29,x1000,x1001,x205000,x205001,x205002,x205003,x205004,x205005=>if x29=true then ((spec_l6Rd_pick.f k x1000 x1001 2).bind fun bt207=>((spec_l6Rd_pick.f k x1000 bt207.2 100).bind fun bt209=>((spec_l6Rd_pick.f k x1000 bt209.2 2).bind fun bt211=>((spec_MarkBatch.f k bt207.1 0 x5 bt209.1 (bt211.1==0)).bind fun bt213=>(if bt213.2.2.2.2.2.2=true then (if x3.length < 2513169434916 then (if 0≤(wrap64 ((bt213.2.2.2.2.2.1.length:Int) - 1)) then (if (wrap64 ((bt213.2.2.2.2.2.1.length:Int) - 1)) < (bt213.2.2.2.2.2.1.length:Int) then (spec_l92Decided.l0 k (x3 ++ [(⟨bt213.1,bt213.2.1,bt213.2.2.1,bt213.2.2.2.1,bt213.2.2.2.2.1,bt213.2.2.2.2.2.1⟩:S27)]) x4 (wrap64 (((rd_T34 bt213.2.2.2.2.2.1 (wrap64 ((bt213.2.2.2.2.2.1.length:Int) - 1))).f0)+1)) (wrap64 (x6+1)) x1000 bt211.2) else (none)) else (none)) else (none)) else (if x3.length < 2513169434916 then (if 0≤(wrap64 ((x205005.length:Int) - 1)) then (if (wrap64 ((x205005.length:Int) - 1)) < (x205005.length:Int) then (spec_l92Decided.l0 k (x3 ++ [(⟨x205000,x205001,x205002,x205003,x205004,x205005⟩:S27)]) x4 (wrap64 (((rd_T34 x205005 (wrap64 ((x205005.length:Int) - 1))).f0)+1)) (wrap64 (x6+1)) x1000 bt211.2) else (none)) else (none)) else (none))))))) else (if x28=2 then (if x3.length < 2513169434916 then (if 0≤(wrap64 ((x205005.length:Int) - 1)) then (if (wrap64 ((x205005.length:Int) - 1)) < (x205005.length:Int) then (spec_l92Decided.l0 k (x3 ++ [(⟨x205000,x205001,255,x205003,x205004,x205005⟩:S27)]) x4 (wrap64 (((rd_T34 x205005 (wrap64 ((x205005.length:Int) - 1))).f0)+1)) (wrap64 (x6+1)) x1000 x1001) else (none)) else (none)) else (none)) else (if x3.length < 2513169434916 then (if 0≤(wrap64 ((x205005.length:Int) - 1)) then (if (wrap64 ((x205005.length:Int) - 1)) < (x205005.length:Int) then (spec_l92Decided.l0 k (x3 ++ [(⟨x205000,x205001,x205002,x205003,x205004,x205005⟩:S27)]) x4 (wrap64 (((rd_T34 x205005 (wrap64 ((x205005.length:Int) - 1))).f0)+1)) (wrap64 (x6+1)) x1000 x1001) else (none)) else (none)) else (none)))
end
def spec_l92Decided.f (k:Nat) (s0_0:List Int) (s0_1:Int):Option ((List (S27))×Int):=(spec_l6Rd_pick.f k s0_0 s0_1 6).bind fun bt191=>((spec_l6Rd_pick.f k s0_0 bt191.2 5).bind fun bt193=>(spec_l92Decided.l0 k (([]:List (S27))) (wrap64 (2+bt191.1)) bt193.1 0 s0_0 bt193.2))
set_option maxHeartbeats 8000000 in
set_option maxRecDepth 100000 in
theorem spec_l92Decided.calls (k:Nat) (g:Nat) (s0_0:List Int) (s0_1:Int) (r1:List (S27)) (r2:Int) (w0 w:World) (hI:IsS94 w0 w g s0_0 s0_1) (hB:Below w0.heap.size w0 w) (h:spec_l92Decided.f k s0_0 s0_1=some (r1,r2)) :
  Calls Try.prog 60 #[.pointer (some ⟨g,0,none⟩)] w fun e w'=>∃ v0_:Value,e = .returned (v0_)∧Kd.N k27 27 w' w.heap.size (fun k_=>(w.heap.size≤k_)) v0_ r1∧IsS94 w0 w' g s0_0 r2∧Below w0.heap.size w0 w'∧KeepBut w w' g none:=by
 have hu27:=Try.underlying27;have HI0:=zzm hI;have HK:=zzm (KeepBut.refl w g none);have HL:=zzm hB.size;clear hI;have HW0:=zzm hB.size;have HB:=zzm hB;clear hB;have H:((spec_l6Rd_pick.f k s0_0 s0_1 6).bind fun bt191=>((spec_l6Rd_pick.f k s0_0 bt191.2 5).bind fun bt193=>(spec_l92Decided.l0 k (([]:List (S27))) (wrap64 (2+bt191.1)) bt193.1 0 s0_0 bt193.2)))=some (r1,r2):=h;clear h;obtain ⟨y188,hy188⟩:∃ y_:List (S27),y_=(([]:List (S27))):=⟨_,rfl⟩;replace H:((spec_l6Rd_pick.f k s0_0 s0_1 6).bind fun bt191=>((spec_l6Rd_pick.f k s0_0 bt191.2 5).bind fun bt193=>(spec_l92Decided.l0 k y188 (wrap64 (2+bt191.1)) bt193.1 0 s0_0 bt193.2)))=some (r1,r2):=by first|(rw [hy188];with_reducible exact H)|(have H2_:=(Option.bind_some _ _).symm.trans H;rw [hy188];with_reducible exact H2_)|(have H2_:=(Option.bind_some _ _).symm.trans H;with_reducible exact H2_)|with_reducible exact H|(rw [hy188];exact H)|exact H
 have Ny188:=zzm hy188;clear hy188;replace H:=Option.bind_eq_some_iff.mp H;obtain ⟨⟨t191,t192⟩,A20,H⟩:=H;replace H:((spec_l6Rd_pick.f k s0_0 t192 5).bind fun bt193=>(spec_l92Decided.l0 k y188 (wrap64 (2+t191)) bt193.1 0 s0_0 bt193.2))=some (r1,r2):=H;have A2:=zzm A20;clear A20;replace H:=Option.bind_eq_some_iff.mp H;obtain ⟨⟨t193,t194⟩,A30,H⟩:=H;replace H:(spec_l92Decided.l0 k y188 (wrap64 (2+t191)) t193 0 s0_0 t194)=some (r1,r2):=H;have A3:=zzm A30;clear A30;have H':=zzm H;clear H;go_enter Try.func60,Try.ntmps60;go_wp2_with (first|((with_reducible refine gate_dst (N:=10) rfl ?_);refine Kd.N_lit k27 _ 27 ?hg (N':=10) ?hd (xs:=([]:List (S27))) (inner:=[]) (ok:=(fun k_=>(w.heap.size≤k_)∧k_≠g)) (okp:=(fun k_=>(w.heap.size≤k_)∧k_≠g)) ?hr ?hp (fun _ hk=>hk) ((show ∀ k_,w.heap.size≤k_→(fun k_=>(w.heap.size≤k_)∧k_≠g) k_ from fun k_ hk=>⟨(Nat.le_trans (keep_size (w:=w) (g:=g) (row:=none) (by repeat (first|(with_reducible first|exact HK.out|apply KeepBut.set_|apply keep_drewN|apply keep_drew|apply keep_alloc)|exact HK.out))) hk),IsS94.fresh (by repeat (first|(with_reducible first|exact HI0.out|apply IsS94.alloc|apply IsS94.drewN|apply IsS94.drew|apply IsS94.set_1)|exact HI0.out)) k_ hk⟩) _ (Nat.le_refl _)) (Below.refl _ _) (Nat.le_refl _) (by simp) ?_;(case hd=>rfl);(case hg=>rfl);(case hr=>first|(go_simp;done)|(go_simp;rfl));(case hp=>exact (Reps.none _ _));intro v189 w4 ho5 hb hg_ hnew_;clear hg_ hnew_;(first|rw [← Ny188.out] at ho5|(simp only [Int.reduceToNat] at ho5;rw [← Ny188.out] at ho5));have n0_:=zzm (Kd.N_lower ho5 (keep_size (w:=w) (g:=g) (row:=none) (by repeat (first|(with_reducible first|exact HK.out|apply KeepBut.set_|apply keep_drewN|apply keep_drew|apply keep_alloc)|exact HK.out))));have n1_:=zzm (IsS94.below (by repeat (first|(with_reducible first|exact HI0.out|apply IsS94.alloc|apply IsS94.drewN|apply IsS94.drew|apply IsS94.set_1)|exact HI0.out)) hb);have n2_:=zzm (KeepBut.trans (by repeat (first|(with_reducible first|exact HK.out|apply KeepBut.set_|apply keep_drewN|apply keep_drew|apply keep_alloc)|exact HK.out)) (KeepBut.of_below hb g none) (.inl rfl));have n3_:=zzm (zzp (by repeat (first|(with_reducible first|exact HB.out|apply zza|apply zzb|apply zzc|refine zzd ?_ (IsS94.ge HI0.out))|exact HB.out)) hb);clear HI0 HK HB;have HO190:=n0_;have HI0:=n1_;have HK:=n2_;have HB:=n3_;clear n0_ n1_ n2_ n3_ hb ho5)|((with_reducible refine gate_callee (f:=54) rfl ?_);refine goesL_ (some 12) rfl rfl Try.func54 (by kernel_rfl) rfl #[.pointer (some ⟨g,0,none⟩),.int .i64 6] rfl zzM2 ?_;(with_reducible refine (spec_l6Rd_pick.calls k g s0_0 s0_1 6 t191 t192 w0 _ ?side1 ?side2 A2.out).mono ?_);(case side1=>repeat (first|(with_reducible first|exact HI0.out|apply IsS94.alloc|apply IsS94.drewN|apply IsS94.drew|apply IsS94.set_1)|exact HI0.out));(case side2=>repeat (first|(with_reducible first|exact HB.out|apply zza|apply zzb|apply zzc|refine zzd ?_ (IsS94.ge HI0.out))|exact HB.out));rintro e w6 ⟨rfl,hi,hb,hk⟩;refine ⟨_,rfl,?_⟩;have n0_:=zzm (Kd.N_mono (Kd.N_keep (Kd.N_mono (ok:=fun k_=>(((w.heap.size≤k_))∧k_≠g)) (zzN HO190.out) (fun k_ hk_=>(⟨hk_,hk_.2⟩:_∧k_≠g))) hk (fun _ h=>h.2)) (fun _ h=>h.1));have n1_:=zzm (KeepBut.trans (by repeat (first|(with_reducible first|exact HK.out|apply KeepBut.set_|apply keep_drewN|apply keep_drew|apply keep_alloc)|exact HK.out)) hk (.inl rfl));have n2_:=zzm (hb);have n3_:=zzm (hi);clear HO190 HK HB HI0;have HO190:=n0_;have HK:=n1_;have HB:=n2_;have HI0:=n3_;clear n0_ n1_ n2_ n3_;(try clear hb);(try clear hb2);(try clear hk);(try clear hi))|((with_reducible refine gate_callee (f:=54) rfl ?_);refine goesL_ (some 15) rfl rfl Try.func54 (by kernel_rfl) rfl #[.pointer (some ⟨g,0,none⟩),.int .i64 5] rfl zzM2 ?_;(with_reducible refine (spec_l6Rd_pick.calls k g s0_0 t192 5 t193 t194 w0 _ ?side1 ?side2 A3.out).mono ?_);(case side1=>repeat (first|(with_reducible first|exact HI0.out|apply IsS94.alloc|apply IsS94.drewN|apply IsS94.drew|apply IsS94.set_1)|exact HI0.out));(case side2=>repeat (first|(with_reducible first|exact HB.out|apply zza|apply zzb|apply zzc|refine zzd ?_ (IsS94.ge HI0.out))|exact HB.out));rintro e w7 ⟨rfl,hi,hb,hk⟩;refine ⟨_,rfl,?_⟩;have n0_:=zzm (Kd.N_mono (Kd.N_keep (Kd.N_mono (ok:=fun k_=>(((w.heap.size≤k_))∧k_≠g)) (zzN HO190.out) (fun k_ hk_=>(⟨hk_,hk_.2⟩:_∧k_≠g))) hk (fun _ h=>h.2)) (fun _ h=>h.1));have n1_:=zzm (KeepBut.trans (by repeat (first|(with_reducible first|exact HK.out|apply KeepBut.set_|apply keep_drewN|apply keep_drew|apply keep_alloc)|exact HK.out)) hk (.inl rfl));have n2_:=zzm (hb);have n3_:=zzm (hi);clear HO190 HK HB HI0;have HO190:=n0_;have HK:=n1_;have HB:=n2_;have HI0:=n3_;clear n0_ n1_ n2_ n3_;(try clear hb);(try clear hb2);(try clear hk);(try clear hi)));go_loopg [3,5,6] k (fun kq v3 v5 v6 w'=>∃ (x3_1:List (S27)) (x5_1:Int) (x6_1:Int) (x1001_1:Int),v5 = .int .i64 x5_1∧v6 = .int .i64 x6_1∧Aside0 (spec_l92Decided.l0 kq x3_1 (wrap64 (2+t191)) x5_1 x6_1 s0_0 x1001_1=some (r1,r2))∧Aside0 (kq≤k)∧Aside0 (Kd.N k27 27 w' w.heap.size (fun k_=>(w.heap.size≤k_)∧k_≠g) v3 x3_1)∧Aside0 (IsS94 w0 w' g s0_0 x1001_1)∧Aside0 (KeepBut w w' g none)∧Aside0 (Below w0.heap.size w0 w'))
 case atStart=>exact ⟨(y188),(t193),(0),(t194),(by first|rfl|(simp;done)|(simp [*];done)),(by first|rfl|(simp;done)|(simp [*];done)),H',⟨Nat.le_refl _⟩,⟨by (with_reducible repeat (first|apply Kd.N_alloc|apply Kd.N_drewN|apply Kd.N_drew));exact HO190.out⟩,⟨by repeat (first|(with_reducible first|exact HI0.out|apply IsS94.alloc|apply IsS94.drewN|apply IsS94.drew|apply IsS94.set_1)|exact HI0.out)⟩,⟨by repeat (first|(with_reducible first|exact HK.out|apply KeepBut.set_|apply keep_drewN|apply keep_drew|apply keep_alloc)|exact HK.out)⟩,⟨by repeat (first|(with_reducible first|exact HB.out|apply zza|apply zzb|apply zzc|refine zzd ?_ (IsS94.ge HI0.out))|exact HB.out)⟩⟩
 case round=>
  clear H';try clear p2
  try clear c5
  try clear c6
  try clear p6
  obtain ⟨x3_1,x5_1,x6_1,x1001_1,rfl,rfl,HA,HK1,HO_3,HI0,HK,HB⟩:=hrel;cases gk with
  | zero=>exact absurd HA.out (by simp [spec_l92Decided.l0])
  | succ k1=>
   have H:=HA.out;clear HA;simp only [spec_l92Decided.l0] at H;by_cases c8:x6_1 < (wrap64 (2+t191))
   ·
    rw [if_pos c8] at H;have c8b0:decide (x6_1 < (wrap64 (2+t191)))=true:=decide_eq_true c8;clear c8;replace H:=Option.bind_eq_some_iff.mp H;obtain ⟨⟨t198,t199⟩,A90,H⟩:=H;replace H:((spec_l91Records.f k1 s0_0 t199 x5_1 2).bind fun bt200=>((spec_l6Rd_pick.f k1 s0_0 bt200.2 6).bind fun bt205=>(if bt205.1=0 then (spec_l92Decided.j1 k1 x3_1 (wrap64 (2+t191)) x5_1 x6_1 bt205.1 (bt205.1==0) s0_0 bt205.2 false false t198 0 0 bt200.1) else (spec_l92Decided.j1 k1 x3_1 (wrap64 (2+t191)) x5_1 x6_1 bt205.1 (bt205.1==1) s0_0 bt205.2 false false t198 0 0 bt200.1))))=some (r1,r2):=H;have A9:=zzm A90;clear A90;replace H:=Option.bind_eq_some_iff.mp H;obtain ⟨⟨t200,t203⟩,A100,H⟩:=H;replace H:((spec_l6Rd_pick.f k1 s0_0 t203 6).bind fun bt205=>(if bt205.1=0 then (spec_l92Decided.j1 k1 x3_1 (wrap64 (2+t191)) x5_1 x6_1 bt205.1 (bt205.1==0) s0_0 bt205.2 false false t198 0 0 t200) else (spec_l92Decided.j1 k1 x3_1 (wrap64 (2+t191)) x5_1 x6_1 bt205.1 (bt205.1==1) s0_0 bt205.2 false false t198 0 0 t200)))=some (r1,r2):=H;have A10:=zzm A100;clear A100;replace H:=Option.bind_eq_some_iff.mp H;obtain ⟨⟨t205,t206⟩,A110,H⟩:=H;replace H:(if t205=0 then (spec_l92Decided.j1 k1 x3_1 (wrap64 (2+t191)) x5_1 x6_1 t205 (t205==0) s0_0 t206 false false t198 0 0 t200) else (spec_l92Decided.j1 k1 x3_1 (wrap64 (2+t191)) x5_1 x6_1 t205 (t205==1) s0_0 t206 false false t198 0 0 t200))=some (r1,r2):=H;have A11:=zzm A110;clear A110;have HC12:=zzm H;clear H;go_upto_if 29 with (first|((with_reducible refine gate_callee (f:=54) rfl ?_);refine goesL_ (some 22) rfl rfl Try.func54 (by kernel_rfl) rfl #[.pointer (some ⟨g,0,none⟩),.int .i64 2] rfl zzM2 ?_;(with_reducible refine (spec_l6Rd_pick.calls k1 g s0_0 x1001_1 2 t198 t199 w0 _ ?side1 ?side2 A9.out).mono ?_);(case side1=>repeat (first|(with_reducible first|exact HI0.out|apply IsS94.alloc|apply IsS94.drewN|apply IsS94.drew|apply IsS94.set_1)|exact HI0.out));(case side2=>repeat (first|(with_reducible first|exact HB.out|apply zza|apply zzb|apply zzc|refine zzd ?_ (IsS94.ge HI0.out))|exact HB.out));rintro e w13 ⟨rfl,hi,hb,hk⟩;refine ⟨_,rfl,?_⟩;have n0_:=zzm (Kd.N_mono (Kd.N_keep (Kd.N_mono (ok:=fun k_=>(((w.heap.size≤k_))∧k_≠g)) (zzN HO_3.out) (fun k_ hk_=>(⟨hk_,hk_.2⟩:_∧k_≠g))) hk (fun _ h=>h.2)) (fun _ h=>h.1));have n1_:=zzm (KeepBut.trans (by repeat (first|(with_reducible first|exact HK.out|apply KeepBut.set_|apply keep_drewN|apply keep_drew|apply keep_alloc)|exact HK.out)) hk (.inl rfl));have n2_:=zzm (hb);have n3_:=zzm (hi);clear HO_3 HK HB HI0;have HO_3:=n0_;have HK:=n1_;have HB:=n2_;have HI0:=n3_;clear n0_ n1_ n2_ n3_;(try clear hb);(try clear hb2);(try clear hk);(try clear hi))|((with_reducible refine gate_callee (f:=87) rfl ?_);refine goesL_ (some 25) rfl rfl Try.func87 (by kernel_rfl) rfl #[.pointer (some ⟨g,0,none⟩),.int .i64 x5_1,.int .i64 2] rfl zzM2 ?_;(with_reducible refine (spec_l91Records.calls k1 g s0_0 t199 x5_1 2 t200 t203 w0 _ ?side1 ?side2 A10.out).mono ?_);(case side1=>repeat (first|(with_reducible first|exact HI0.out|apply IsS94.alloc|apply IsS94.drewN|apply IsS94.drew|apply IsS94.set_1)|exact HI0.out));(case side2=>repeat (first|(with_reducible first|exact HB.out|apply zza|apply zzb|apply zzc|refine zzd ?_ (IsS94.ge HI0.out))|exact HB.out));rintro e w14 ⟨v201,rfl,ho0,hi,hb,hk⟩;refine ⟨_,rfl,?_⟩;have n0_:=zzm (Kd.N_mono (Kd.N_told (Kd.N_oldK (Kd.N_mono (ok:=fun k_=>(((w.heap.size≤k_))∧k_≠g)) (zzN HO_3.out) (fun k_ hk_=>(⟨hk_,hk_.2⟩:_∧k_≠g))) hk) (by first|exact Kd.N_base ho0|exact Kd.S_base ho0)) (fun _ h_=>h_.1));have n1_:=zzm (Kd.N_lower (Kd.N_mono (ok':=fun k_=>(w.heap.size≤k_)∧some k_≠(u3:Value).ownBlock∧k_≠g) (Kd.S_N (Kd.S_bound ho0)) (fun k_ hk_=>⟨(Nat.le_trans (keep_size (w:=w) (g:=g) (row:=none) (by repeat (first|(with_reducible first|exact HK.out|apply KeepBut.set_|apply keep_drewN|apply keep_drew|apply keep_alloc)|exact HK.out))) hk_.2.1),(Kd.fresh' (Kd.N_lt (zzN HO_3.out)) k_ hk_.2.1),(IsS94.fresh (by repeat (first|(with_reducible first|exact HI0.out|apply IsS94.alloc|apply IsS94.drewN|apply IsS94.drew|apply IsS94.set_1)|exact HI0.out)) k_ hk_.2.1)⟩)) (keep_size (w:=w) (g:=g) (row:=none) (by repeat (first|(with_reducible first|exact HK.out|apply KeepBut.set_|apply keep_drewN|apply keep_drew|apply keep_alloc)|exact HK.out))));have n2_:=zzm (KeepBut.trans (by repeat (first|(with_reducible first|exact HK.out|apply KeepBut.set_|apply keep_drewN|apply keep_drew|apply keep_alloc)|exact HK.out)) hk (.inl rfl));have n3_:=zzm (hb);have n4_:=zzm (hi);clear HO_3 HK HB HI0;have HO_3:=n0_;have HO202:=n1_;have HK:=n2_;have HB:=n3_;have HI0:=n4_;clear n0_ n1_ n2_ n3_ n4_;(try clear hb);(try clear hb2);(try clear hk);(try clear hi);(try clear ho0);obtain ⟨Ao15,co15,eo15⟩:=Kd.N_slice HO202.out;subst eo15)|((with_reducible refine gate_dst (N:=7) rfl ?_);refine box_event ?hg (N:=7) ?hd (cs:=#[.bool false,.bool false,.int .i64 0,.int .i64 0,.int .i64 0,.slice none 0 0]) (t:=27) ?hr ?_;(case hd=>rfl);(case hg=>rfl);(case hr=>first|(go_simp;done)|(go_simp;rfl));intro gb204 hg w16 hbox hb;have n0_:=zzm (Kd.N_below (Kd.N_elderB (zzN HO_3.out) gb204 (Nat.le_of_eq hg.symm)) hb);have n1_:=zzm (Kd.N_below (Kd.N_elderB (zzN HO202.out) gb204 (Nat.le_of_eq hg.symm)) hb);have n2_:=zzm (IsS94.below (by repeat (first|(with_reducible first|exact HI0.out|apply IsS94.alloc|apply IsS94.drewN|apply IsS94.drew|apply IsS94.set_1)|exact HI0.out)) hb);have n3_:=zzm (KeepBut.trans (by repeat (first|(with_reducible first|exact HK.out|apply KeepBut.set_|apply keep_drewN|apply keep_drew|apply keep_alloc)|exact HK.out)) (KeepBut.of_below hb g none) (.inl rfl));have n4_:=zzm (zzp (by repeat (first|(with_reducible first|exact HB.out|apply zza|apply zzb|apply zzc|refine zzd ?_ (IsS94.ge HI0.out))|exact HB.out)) hb);have n5_:=zzm (hbox);have n6_:=zzm ((by rw [hg];exact (keep_size (w:=w) (g:=g) (row:=none) (by repeat (first|(with_reducible first|exact HK.out|apply KeepBut.set_|apply keep_drewN|apply keep_drew|apply keep_alloc)|exact HK.out))):w.heap.size≤gb204));have n7_:=zzm ((Nat.le_trans HW0.out (by rw [hg];exact (keep_size (w:=w) (g:=g) (row:=none) (by repeat (first|(with_reducible first|exact HK.out|apply KeepBut.set_|apply keep_drewN|apply keep_drew|apply keep_alloc)|exact HK.out))):w.heap.size≤gb204):w0.heap.size≤gb204));have n8_:=zzm ((by rw [hg];exact Nat.ne_of_lt (IsS94.lt (show IsS94 w0 _ g s0_0 t203 from by repeat (first|(with_reducible first|exact HI0.out|apply IsS94.alloc|apply IsS94.drewN|apply IsS94.drew|apply IsS94.set_1)|exact HI0.out))):g≠gb204));have n9_:=zzm ((by rw [hg];exact Nat.ne_of_gt (IsS94.lt (show IsS94 w0 _ g s0_0 t203 from by repeat (first|(with_reducible first|exact HI0.out|apply IsS94.alloc|apply IsS94.drewN|apply IsS94.drew|apply IsS94.set_1)|exact HI0.out))):gb204≠g));clear HO_3 HO202 HI0 HK HB;have HO_3:=n0_;have HO202:=n1_;have HI0:=n2_;have HK:=n3_;have HB:=n4_;have BK204:=n5_;have GW204:=n6_;have GE204:=n7_;have NB0_204:=n8_;have NB204_0:=n9_;clear n0_ n1_ n2_ n3_ n4_ n5_ n6_ n7_ n8_ n9_ hb hbox hg;have hnb17:=NB204_0.out;have hnc17:=NB0_204.out;obtain ⟨hcz18_0,hcz18_1,hcz18_2,hcz18_3,hcz18_4,hcz18_5,hfz18_0,hfz18_1,hfz18_2,hfz18_3,hfz18_4,hfz18_5⟩:=zzc6 BK204.out)|((with_reducible refine gate_callee (f:=54) rfl ?_);refine goesL_ (some 28) rfl rfl Try.func54 (by kernel_rfl) rfl #[.pointer (some ⟨g,0,none⟩),.int .i64 6] rfl zzM2 ?_;(with_reducible refine (spec_l6Rd_pick.calls k1 g s0_0 t203 6 t205 t206 w0 _ ?side1 ?side2 A11.out).mono ?_);(case side1=>repeat (first|(with_reducible first|exact HI0.out|apply IsS94.alloc|apply IsS94.drewN|apply IsS94.drew|apply IsS94.set_1|refine IsS94.far ?_ NB0_204.out _)|exact HI0.out));(case side2=>repeat (first|(with_reducible first|exact HB.out|apply zza|apply zzb|apply zzc|refine zzd ?_ (IsS94.ge HI0.out)|refine zzd ?_ GE204.out)|exact HB.out));rintro e w19 ⟨rfl,hi,hb,hk⟩;refine ⟨_,rfl,?_⟩;have n0_:=zzm (Kd.N_mono (Kd.N_keep (Kd.N_mono (ok:=fun k_=>(((((w.heap.size≤k_))∧k_≠g)∧some k_≠(.slice Ao15 t200.length co15:Value).ownBlock)∧k_≠gb204)) (zzN ((Kd.N_mono (Kd.N_far (p:=⟨gb204,5,none⟩) (Kd.N_far (p:=⟨gb204,4,none⟩) (Kd.N_far (p:=⟨gb204,3,none⟩) (Kd.N_far (p:=⟨gb204,2,none⟩) (Kd.N_far (p:=⟨gb204,1,none⟩) (Kd.N_far (p:=⟨gb204,0,none⟩) (Kd.N_mono HO_3.out (fun k_ hk=>(⟨hk,hk.2⟩:_∧k_≠gb204))) (fun _ hk=>hk.2) (.bool false)) (fun _ hk=>hk.2) (.bool false)) (fun _ hk=>hk.2) (.int .i64 t198)) (fun _ hk=>hk.2) (.int .i64 0)) (fun _ hk=>hk.2) (.int .i64 0)) (fun _ hk=>hk.2) (.slice Ao15 t200.length co15)) (fun _ h_=>h_.1)))) (fun k_ hk_=>(⟨hk_,hk_.1.1.2⟩:_∧k_≠g))) hk (fun _ h=>h.2)) (fun _ h=>h.1));have n1_:=zzm (Kd.N_mono (Kd.N_keep (Kd.N_mono (ok:=fun k_=>((((w.heap.size≤k_))∧(some k_≠(u3:Value).ownBlock∧k_≠g))∧k_≠gb204)) (zzN ((Kd.N_mono (Kd.N_far (p:=⟨gb204,5,none⟩) (Kd.N_far (p:=⟨gb204,4,none⟩) (Kd.N_far (p:=⟨gb204,3,none⟩) (Kd.N_far (p:=⟨gb204,2,none⟩) (Kd.N_far (p:=⟨gb204,1,none⟩) (Kd.N_far (p:=⟨gb204,0,none⟩) (Kd.N_mono HO202.out (fun k_ hk=>(⟨hk,hk.2⟩:_∧k_≠gb204))) (fun _ hk=>hk.2) (.bool false)) (fun _ hk=>hk.2) (.bool false)) (fun _ hk=>hk.2) (.int .i64 t198)) (fun _ hk=>hk.2) (.int .i64 0)) (fun _ hk=>hk.2) (.int .i64 0)) (fun _ hk=>hk.2) (.slice Ao15 t200.length co15)) (fun _ h_=>h_.1)))) (fun k_ hk_=>(⟨hk_,hk_.1.2.2⟩:_∧k_≠g))) hk (fun _ h=>h.2)) (fun _ h=>h.1));have n2_:=zzm (KeepBut.blk hk (g':=gb204) (o:=.cells #[.bool false,.bool false,.int .i64 t198,.int .i64 0,.int .i64 0,.slice Ao15 t200.length co15] 27 (0,0)) (by (with_reducible repeat (first|apply zzf|apply zzg|apply zze));refine zzi (cs:=#[.bool false,.bool false,.int .i64 t198,.int .i64 0,.int .i64 0,.slice none 0 0]) ?_ 5 _ rfl;(with_reducible repeat (first|apply zzf|apply zzg|apply zze));refine zzi (cs:=#[.bool false,.bool false,.int .i64 t198,.int .i64 0,.int .i64 0,.slice none 0 0]) ?_ 4 _ rfl;(with_reducible repeat (first|apply zzf|apply zzg|apply zze));refine zzi (cs:=#[.bool false,.bool false,.int .i64 t198,.int .i64 0,.int .i64 0,.slice none 0 0]) ?_ 3 _ rfl;(with_reducible repeat (first|apply zzf|apply zzg|apply zze));refine zzi (cs:=#[.bool false,.bool false,.int .i64 0,.int .i64 0,.int .i64 0,.slice none 0 0]) ?_ 2 _ rfl;(with_reducible repeat (first|apply zzf|apply zzg|apply zze));refine zzi (cs:=#[.bool false,.bool false,.int .i64 0,.int .i64 0,.int .i64 0,.slice none 0 0]) ?_ 1 _ rfl;(with_reducible repeat (first|apply zzf|apply zzg|apply zze));refine zzi (cs:=#[.bool false,.bool false,.int .i64 0,.int .i64 0,.int .i64 0,.slice none 0 0]) ?_ 0 _ rfl;(with_reducible repeat (first|apply zzf|apply zzg|apply zze));exact BK204.out) NB204_0.out (by simp));have n3_:=zzm (KeepBut.trans (by repeat (first|(with_reducible first|exact HK.out|apply KeepBut.set_|apply keep_drewN|apply keep_drew|apply keep_alloc|refine keep_far ?_ GW204.out _)|exact HK.out)) hk (.inl rfl));have n4_:=zzm (hb);have n5_:=zzm (hi);clear HO_3 HO202 BK204 HK HB HI0;have HO_3:=n0_;have HO202:=n1_;have BK204:=n2_;have HK:=n3_;have HB:=n4_;have HI0:=n5_;clear n0_ n1_ n2_ n3_ n4_ n5_;(try clear hb);(try clear hb2);(try clear hk);(try clear hi)));(try simp only [Act.put,zzq,zzr,zzs]);go_cut [29] (fun v29 wc=>∃ (kq:Nat) (x29_11:Bool),v29 = .bool x29_11∧Aside0 (spec_l92Decided.j1 kq x3_1 (wrap64 (2+t191)) x5_1 x6_1 t205 x29_11 s0_0 t206 false false t198 0 0 t200=some (r1,r2))∧Aside0 (kq≤k1)∧Aside0 (Kd.N k27 27 wc w.heap.size (fun k_=>(w.heap.size≤k_)∧some k_≠((.slice Ao15 t200.length co15):Value).ownBlock∧k_≠gb204∧k_≠g) u3 x3_1)∧Aside0 (Kd.N k34 34 wc w.heap.size (fun k_=>(w.heap.size≤k_)∧some k_≠(u3:Value).ownBlock∧k_≠gb204∧k_≠g) (.slice Ao15 t200.length co15) t200)∧Aside0 (wc.heap[gb204]? = some (.cells #[.bool false,.bool false,.int .i64 t198,.int .i64 0,.int .i64 0,(.slice Ao15 t200.length co15)] 27 (0,0)))∧Aside0 (IsS94 w0 wc g s0_0 t206)∧Aside0 (KeepBut w wc g none)∧Aside0 (Below w0.heap.size w0 wc))
    case first=>
     have H:=HC12.out;clear HC12;by_cases c20:t205=0
     ·
      rw [if_pos c20] at H;have c20b0:(t205==0)=true:=beq_iff_eq.mpr c20;have c20b1:(t205 != 0)=false:=bne_eq_false_iff_eq.mpr c20;clear c20;(first|rw [c20b0]|(simp only [i64_w,i32_w];rw [c20b0])|skip);have H':=zzm H;clear H;go_wp2;go_meet
      case rel=>exact ⟨_,((t205==0)),(by first|rfl|(simp;done)|(simp [*];done)),H',⟨by have:=HK1.out;first|omega|exact Nat.le_refl _⟩,⟨by (with_reducible repeat (first|apply Kd.N_alloc|apply Kd.N_drewN|apply Kd.N_drew));exact Kd.N_mono HO_3.out (fun _ hk=>⟨hk.1.1.1,⟨hk.1.2,⟨hk.2,hk.1.1.2⟩⟩⟩)⟩,⟨by (with_reducible repeat (first|apply Kd.N_alloc|apply Kd.N_drewN|apply Kd.N_drew));exact Kd.N_mono HO202.out (fun _ hk=>⟨hk.1.1,⟨hk.1.2.1,⟨hk.2,hk.1.2.2⟩⟩⟩)⟩,⟨by (with_reducible repeat (first|apply zzf|apply zzg|apply zze));exact BK204.out⟩,⟨by repeat (first|(with_reducible first|exact HI0.out|apply IsS94.alloc|apply IsS94.drewN|apply IsS94.drew|apply IsS94.set_1|refine IsS94.far ?_ NB0_204.out _)|exact HI0.out)⟩,⟨by repeat (first|(with_reducible first|exact HK.out|apply KeepBut.set_|apply keep_drewN|apply keep_drew|apply keep_alloc|refine keep_far ?_ GW204.out _)|exact HK.out)⟩,⟨by repeat (first|(with_reducible first|exact HB.out|apply zza|apply zzb|apply zzc|refine zzd ?_ (IsS94.ge HI0.out)|refine zzd ?_ GE204.out)|exact HB.out)⟩⟩
     ·
      rw [if_neg c20] at H;have c20b0:(t205==0)=false:=beq_eq_false_iff_ne.mpr c20;have c20b1:(t205 != 0)=true:=bne_iff_ne.mpr c20;(first|rw [c20b0]|(simp only [i64_w,i32_w];rw [c20b0])|skip);have H':=zzm H;clear H;go_wp2;go_meet
      case rel=>exact ⟨_,((t205==1)),(by first|rfl|(simp;done)|(simp [*];done)),H',⟨by have:=HK1.out;first|omega|exact Nat.le_refl _⟩,⟨by (with_reducible repeat (first|apply Kd.N_alloc|apply Kd.N_drewN|apply Kd.N_drew));exact Kd.N_mono HO_3.out (fun _ hk=>⟨hk.1.1.1,⟨hk.1.2,⟨hk.2,hk.1.1.2⟩⟩⟩)⟩,⟨by (with_reducible repeat (first|apply Kd.N_alloc|apply Kd.N_drewN|apply Kd.N_drew));exact Kd.N_mono HO202.out (fun _ hk=>⟨hk.1.1,⟨hk.1.2.1,⟨hk.2,hk.1.2.2⟩⟩⟩)⟩,⟨by (with_reducible repeat (first|apply zzf|apply zzg|apply zze));exact BK204.out⟩,⟨by repeat (first|(with_reducible first|exact HI0.out|apply IsS94.alloc|apply IsS94.drewN|apply IsS94.drew|apply IsS94.set_1|refine IsS94.far ?_ NB0_204.out _)|exact HI0.out)⟩,⟨by repeat (first|(with_reducible first|exact HK.out|apply KeepBut.set_|apply keep_drewN|apply keep_drew|apply keep_alloc|refine keep_far ?_ GW204.out _)|exact HK.out)⟩,⟨by repeat (first|(with_reducible first|exact HB.out|apply zza|apply zzb|apply zzc|refine zzd ?_ (IsS94.ge HI0.out)|refine zzd ?_ GE204.out)|exact HB.out)⟩⟩
    case rest=>
     clear HC12;try clear c1
     try clear c2
     try clear p2
     try clear c5
     try clear c6
     try clear p6
     try clear c8
     try clear c8b0
     try clear c17
     try clear c20
     try clear c20b0
     try clear c20b1
     try clear hcz18_0
     try clear hcz18_1
     try clear hcz18_2
     try clear hcz18_3
     try clear hcz18_4
     try clear hcz18_5
     try clear hfz18_0
     try clear hfz18_1
     try clear hfz18_2
     try clear hfz18_3
     try clear hfz18_4
     try clear hfz18_5
     try clear p2
     try clear p6
     obtain ⟨kq,x29_11,rfl,HA,HJ11,HO_3,HO_205005,BK204,HI0,HK,HB⟩:=hcut;cases kq with
     | zero=>exact absurd HA.out (by simp [spec_l92Decided.j1])
     | succ kj11=>
      have H:=HA.out;clear HA;simp only [spec_l92Decided.j1] at H;by_cases c21:x29_11=true
      ·
       subst c21;have H1:((spec_l6Rd_pick.f kj11 s0_0 t206 2).bind fun bt207=>((spec_l6Rd_pick.f kj11 s0_0 bt207.2 100).bind fun bt209=>((spec_l6Rd_pick.f kj11 s0_0 bt209.2 2).bind fun bt211=>((spec_MarkBatch.f kj11 bt207.1 0 x5_1 bt209.1 (bt211.1==0)).bind fun bt213=>(if bt213.2.2.2.2.2.2=true then (if x3_1.length < 2513169434916 then (if 0≤(wrap64 ((bt213.2.2.2.2.2.1.length:Int) - 1)) then (if (wrap64 ((bt213.2.2.2.2.2.1.length:Int) - 1)) < (bt213.2.2.2.2.2.1.length:Int) then (spec_l92Decided.l0 kj11 (x3_1 ++ [(⟨bt213.1,bt213.2.1,bt213.2.2.1,bt213.2.2.2.1,bt213.2.2.2.2.1,bt213.2.2.2.2.2.1⟩:S27)]) (wrap64 (2+t191)) (wrap64 (((rd_T34 bt213.2.2.2.2.2.1 (wrap64 ((bt213.2.2.2.2.2.1.length:Int) - 1))).f0)+1)) (wrap64 (x6_1+1)) s0_0 bt211.2) else (none)) else (none)) else (none)) else (if x3_1.length < 2513169434916 then (if 0≤(wrap64 ((t200.length:Int) - 1)) then (if (wrap64 ((t200.length:Int) - 1)) < (t200.length:Int) then (spec_l92Decided.l0 kj11 (x3_1 ++ [(⟨false,false,t198,0,0,t200⟩:S27)]) (wrap64 (2+t191)) (wrap64 (((rd_T34 t200 (wrap64 ((t200.length:Int) - 1))).f0)+1)) (wrap64 (x6_1+1)) s0_0 bt211.2) else (none)) else (none)) else (none)))))))=some (r1,r2):=by rw [if_pos rfl] at H;exact H
       clear H;have H:=H1;clear H1;replace H:=Option.bind_eq_some_iff.mp H;obtain ⟨⟨t207,t208⟩,A220,H⟩:=H;replace H:((spec_l6Rd_pick.f kj11 s0_0 t208 100).bind fun bt209=>((spec_l6Rd_pick.f kj11 s0_0 bt209.2 2).bind fun bt211=>((spec_MarkBatch.f kj11 t207 0 x5_1 bt209.1 (bt211.1==0)).bind fun bt213=>(if bt213.2.2.2.2.2.2=true then (if x3_1.length < 2513169434916 then (if 0≤(wrap64 ((bt213.2.2.2.2.2.1.length:Int) - 1)) then (if (wrap64 ((bt213.2.2.2.2.2.1.length:Int) - 1)) < (bt213.2.2.2.2.2.1.length:Int) then (spec_l92Decided.l0 kj11 (x3_1 ++ [(⟨bt213.1,bt213.2.1,bt213.2.2.1,bt213.2.2.2.1,bt213.2.2.2.2.1,bt213.2.2.2.2.2.1⟩:S27)]) (wrap64 (2+t191)) (wrap64 (((rd_T34 bt213.2.2.2.2.2.1 (wrap64 ((bt213.2.2.2.2.2.1.length:Int) - 1))).f0)+1)) (wrap64 (x6_1+1)) s0_0 bt211.2) else (none)) else (none)) else (none)) else (if x3_1.length < 2513169434916 then (if 0≤(wrap64 ((t200.length:Int) - 1)) then (if (wrap64 ((t200.length:Int) - 1)) < (t200.length:Int) then (spec_l92Decided.l0 kj11 (x3_1 ++ [(⟨false,false,t198,0,0,t200⟩:S27)]) (wrap64 (2+t191)) (wrap64 (((rd_T34 t200 (wrap64 ((t200.length:Int) - 1))).f0)+1)) (wrap64 (x6_1+1)) s0_0 bt211.2) else (none)) else (none)) else (none))))))=some (r1,r2):=H;have A22:=zzm A220;clear A220;replace H:=Option.bind_eq_some_iff.mp H;obtain ⟨⟨t209,t210⟩,A230,H⟩:=H;replace H:((spec_l6Rd_pick.f kj11 s0_0 t210 2).bind fun bt211=>((spec_MarkBatch.f kj11 t207 0 x5_1 t209 (bt211.1==0)).bind fun bt213=>(if bt213.2.2.2.2.2.2=true then (if x3_1.length < 2513169434916 then (if 0≤(wrap64 ((bt213.2.2.2.2.2.1.length:Int) - 1)) then (if (wrap64 ((bt213.2.2.2.2.2.1.length:Int) - 1)) < (bt213.2.2.2.2.2.1.length:Int) then (spec_l92Decided.l0 kj11 (x3_1 ++ [(⟨bt213.1,bt213.2.1,bt213.2.2.1,bt213.2.2.2.1,bt213.2.2.2.2.1,bt213.2.2.2.2.2.1⟩:S27)]) (wrap64 (2+t191)) (wrap64 (((rd_T34 bt213.2.2.2.2.2.1 (wrap64 ((bt213.2.2.2.2.2.1.length:Int) - 1))).f0)+1)) (wrap64 (x6_1+1)) s0_0 bt211.2) else (none)) else (none)) else (none)) else (if x3_1.length < 2513169434916 then (if 0≤(wrap64 ((t200.length:Int) - 1)) then (if (wrap64 ((t200.length:Int) - 1)) < (t200.length:Int) then (spec_l92Decided.l0 kj11 (x3_1 ++ [(⟨false,false,t198,0,0,t200⟩:S27)]) (wrap64 (2+t191)) (wrap64 (((rd_T34 t200 (wrap64 ((t200.length:Int) - 1))).f0)+1)) (wrap64 (x6_1+1)) s0_0 bt211.2) else (none)) else (none)) else (none)))))=some (r1,r2):=H;have A23:=zzm A230;clear A230;replace H:=Option.bind_eq_some_iff.mp H;obtain ⟨⟨t211,t212⟩,A240,H⟩:=H;replace H:((spec_MarkBatch.f kj11 t207 0 x5_1 t209 (t211==0)).bind fun bt213=>(if bt213.2.2.2.2.2.2=true then (if x3_1.length < 2513169434916 then (if 0≤(wrap64 ((bt213.2.2.2.2.2.1.length:Int) - 1)) then (if (wrap64 ((bt213.2.2.2.2.2.1.length:Int) - 1)) < (bt213.2.2.2.2.2.1.length:Int) then (spec_l92Decided.l0 kj11 (x3_1 ++ [(⟨bt213.1,bt213.2.1,bt213.2.2.1,bt213.2.2.2.1,bt213.2.2.2.2.1,bt213.2.2.2.2.2.1⟩:S27)]) (wrap64 (2+t191)) (wrap64 (((rd_T34 bt213.2.2.2.2.2.1 (wrap64 ((bt213.2.2.2.2.2.1.length:Int) - 1))).f0)+1)) (wrap64 (x6_1+1)) s0_0 t212) else (none)) else (none)) else (none)) else (if x3_1.length < 2513169434916 then (if 0≤(wrap64 ((t200.length:Int) - 1)) then (if (wrap64 ((t200.length:Int) - 1)) < (t200.length:Int) then (spec_l92Decided.l0 kj11 (x3_1 ++ [(⟨false,false,t198,0,0,t200⟩:S27)]) (wrap64 (2+t191)) (wrap64 (((rd_T34 t200 (wrap64 ((t200.length:Int) - 1))).f0)+1)) (wrap64 (x6_1+1)) s0_0 t212) else (none)) else (none)) else (none))))=some (r1,r2):=H;have A24:=zzm A240;clear A240;replace H:=Option.bind_eq_some_iff.mp H;obtain ⟨⟨t213,t214,t215,t216,t217,t218,t221⟩,A250,H⟩:=H;replace H:(if t221=true then (if x3_1.length < 2513169434916 then (if 0≤(wrap64 ((t218.length:Int) - 1)) then (if (wrap64 ((t218.length:Int) - 1)) < (t218.length:Int) then (spec_l92Decided.l0 kj11 (x3_1 ++ [(⟨t213,t214,t215,t216,t217,t218⟩:S27)]) (wrap64 (2+t191)) (wrap64 (((rd_T34 t218 (wrap64 ((t218.length:Int) - 1))).f0)+1)) (wrap64 (x6_1+1)) s0_0 t212) else (none)) else (none)) else (none)) else (if x3_1.length < 2513169434916 then (if 0≤(wrap64 ((t200.length:Int) - 1)) then (if (wrap64 ((t200.length:Int) - 1)) < (t200.length:Int) then (spec_l92Decided.l0 kj11 (x3_1 ++ [(⟨false,false,t198,0,0,t200⟩:S27)]) (wrap64 (2+t191)) (wrap64 (((rd_T34 t200 (wrap64 ((t200.length:Int) - 1))).f0)+1)) (wrap64 (x6_1+1)) s0_0 t212) else (none)) else (none)) else (none)))=some (r1,r2):=H;have A25:=zzm A250;clear A250;by_cases c26:t221=true
       ·
        subst c26;have H1:(if x3_1.length < 2513169434916 then (if 0≤(wrap64 ((t218.length:Int) - 1)) then (if (wrap64 ((t218.length:Int) - 1)) < (t218.length:Int) then (spec_l92Decided.l0 kj11 (x3_1 ++ [(⟨t213,t214,t215,t216,t217,t218⟩:S27)]) (wrap64 (2+t191)) (wrap64 (((rd_T34 t218 (wrap64 ((t218.length:Int) - 1))).f0)+1)) (wrap64 (x6_1+1)) s0_0 t212) else (none)) else (none)) else (none))=some (r1,r2):=by rw [if_pos rfl] at H;exact H
        clear H;have H:=H1;clear H1;by_cases c27:x3_1.length < 2513169434916
        ·
         rw [if_pos c27] at H;have LMc27:=zzm c27;clear c27;obtain ⟨y223,hy223⟩:∃ y_:List (S27),y_=(x3_1 ++ [(⟨t213,t214,t215,t216,t217,t218⟩:S27)]):=⟨_,rfl⟩;replace H:(if 0≤(wrap64 ((t218.length:Int) - 1)) then (if (wrap64 ((t218.length:Int) - 1)) < (t218.length:Int) then (spec_l92Decided.l0 kj11 y223 (wrap64 (2+t191)) (wrap64 (((rd_T34 t218 (wrap64 ((t218.length:Int) - 1))).f0)+1)) (wrap64 (x6_1+1)) s0_0 t212) else (none)) else (none))=some (r1,r2):=by first|(rw [hy223];with_reducible exact H)|(have H2_:=(Option.bind_some _ _).symm.trans H;rw [hy223];with_reducible exact H2_)|(have H2_:=(Option.bind_some _ _).symm.trans H;with_reducible exact H2_)|with_reducible exact H|(rw [hy223];exact H)|exact H
         have Ny223:=zzm hy223;clear hy223;obtain ⟨ji28,hji28⟩:∃ j_:Int,(wrap64 ((t218.length:Int) - 1))=j_:=⟨_,rfl⟩;replace H:(if 0≤(ji28) then (if (ji28) < (t218.length:Int) then (spec_l92Decided.l0 kj11 y223 (wrap64 (2+t191)) (wrap64 (((rd_T34 t218 (ji28)).f0)+1)) (wrap64 (x6_1+1)) s0_0 t212) else (none)) else (none))=some (r1,r2):=by first|(rw [hji28] at H;exact H)|(simp only [hji28] at H ⊢;exact H)
         (try rw [hji28] at A22);(try rw [hji28] at A23);(try rw [hji28] at A24);(try rw [hji28] at A25);have hji28w:(IntKind.i64.wrap ((t218.length:Int) - 1))=ji28:=(i64_w _).trans hji28;by_cases c29 : 0≤(ji28)
         ·
          rw [if_pos c29] at H;have c29b0:decide (0≤(ji28))=true:=decide_eq_true c29;clear c29;by_cases c30:(ji28) < (t218.length:Int)
          ·
           rw [if_pos c30] at H;have c30b0:decide ((ji28) < (t218.length:Int))=true:=decide_eq_true c30;clear c30;have H':=zzm H;clear H;go_wp2_with (first|((with_reducible refine gate_callee (f:=54) rfl ?_);refine goesL_ (some 34) rfl rfl Try.func54 (by kernel_rfl) rfl #[.pointer (some ⟨g,0,none⟩),.int .i64 2] rfl zzM2 ?_;(with_reducible refine (spec_l6Rd_pick.calls kj11 g s0_0 t206 2 t207 t208 w0 _ ?side1 ?side2 A22.out).mono ?_);(case side1=>repeat (first|(with_reducible first|exact HI0.out|apply IsS94.alloc|apply IsS94.drewN|apply IsS94.drew|apply IsS94.set_1|refine IsS94.far ?_ NB0_204.out _)|exact HI0.out));(case side2=>repeat (first|(with_reducible first|exact HB.out|apply zza|apply zzb|apply zzc|refine zzd ?_ (IsS94.ge HI0.out)|refine zzd ?_ GE204.out)|exact HB.out));rintro e w31 ⟨rfl,hi,hb,hk⟩;refine ⟨_,rfl,?_⟩;have n0_:=zzm (Kd.N_mono (Kd.N_keep (Kd.N_mono (ok:=fun k_=>(((w.heap.size≤k_))∧(some k_≠(.slice Ao15 t200.length co15:Value).ownBlock∧(k_≠gb204∧k_≠g)))) (zzN HO_3.out) (fun k_ hk_=>(⟨hk_,hk_.2.2.2⟩:_∧k_≠g))) hk (fun _ h=>h.2)) (fun _ h=>h.1));have n1_:=zzm (Kd.N_mono (Kd.N_keep (Kd.N_mono (ok:=fun k_=>(((w.heap.size≤k_))∧(some k_≠(u3:Value).ownBlock∧(k_≠gb204∧k_≠g)))) (zzN HO_205005.out) (fun k_ hk_=>(⟨hk_,hk_.2.2.2⟩:_∧k_≠g))) hk (fun _ h=>h.2)) (fun _ h=>h.1));have n2_:=zzm (KeepBut.blk hk (g':=gb204) (o:=.cells #[.bool false,.bool false,.int .i64 t198,.int .i64 0,.int .i64 0,.slice Ao15 t200.length co15] 27 (0,0)) (zzE BK204.out) NB204_0.out (by simp));have n3_:=zzm (KeepBut.trans (by repeat (first|(with_reducible first|exact HK.out|apply KeepBut.set_|apply keep_drewN|apply keep_drew|apply keep_alloc|refine keep_far ?_ GW204.out _)|exact HK.out)) hk (.inl rfl));have n4_:=zzm (hb);have n5_:=zzm (hi);clear HO_3 HO_205005 BK204 HK HB HI0;have HO_3:=n0_;have HO_205005:=n1_;have BK204:=n2_;have HK:=n3_;have HB:=n4_;have HI0:=n5_;clear n0_ n1_ n2_ n3_ n4_ n5_;(try clear hb);(try clear hb2);(try clear hk);(try clear hi))|((with_reducible refine gate_callee (f:=54) rfl ?_);refine goesL_ (some 37) rfl rfl Try.func54 (by kernel_rfl) rfl #[.pointer (some ⟨g,0,none⟩),.int .i64 100] rfl zzM2 ?_;(with_reducible refine (spec_l6Rd_pick.calls kj11 g s0_0 t208 100 t209 t210 w0 _ ?side1 ?side2 A23.out).mono ?_);(case side1=>repeat (first|(with_reducible first|exact HI0.out|apply IsS94.alloc|apply IsS94.drewN|apply IsS94.drew|apply IsS94.set_1|refine IsS94.far ?_ NB0_204.out _)|exact HI0.out));(case side2=>repeat (first|(with_reducible first|exact HB.out|apply zza|apply zzb|apply zzc|refine zzd ?_ (IsS94.ge HI0.out)|refine zzd ?_ GE204.out)|exact HB.out));rintro e w32 ⟨rfl,hi,hb,hk⟩;refine ⟨_,rfl,?_⟩;have n0_:=zzm (Kd.N_mono (Kd.N_keep (Kd.N_mono (ok:=fun k_=>(((w.heap.size≤k_))∧(some k_≠(.slice Ao15 t200.length co15:Value).ownBlock∧(k_≠gb204∧k_≠g)))) (zzN HO_3.out) (fun k_ hk_=>(⟨hk_,hk_.2.2.2⟩:_∧k_≠g))) hk (fun _ h=>h.2)) (fun _ h=>h.1));have n1_:=zzm (Kd.N_mono (Kd.N_keep (Kd.N_mono (ok:=fun k_=>(((w.heap.size≤k_))∧(some k_≠(u3:Value).ownBlock∧(k_≠gb204∧k_≠g)))) (zzN HO_205005.out) (fun k_ hk_=>(⟨hk_,hk_.2.2.2⟩:_∧k_≠g))) hk (fun _ h=>h.2)) (fun _ h=>h.1));have n2_:=zzm (KeepBut.blk hk (g':=gb204) (o:=.cells #[.bool false,.bool false,.int .i64 t198,.int .i64 0,.int .i64 0,.slice Ao15 t200.length co15] 27 (0,0)) (zzE BK204.out) NB204_0.out (by simp));have n3_:=zzm (KeepBut.trans (by repeat (first|(with_reducible first|exact HK.out|apply KeepBut.set_|apply keep_drewN|apply keep_drew|apply keep_alloc|refine keep_far ?_ GW204.out _)|exact HK.out)) hk (.inl rfl));have n4_:=zzm (hb);have n5_:=zzm (hi);clear HO_3 HO_205005 BK204 HK HB HI0;have HO_3:=n0_;have HO_205005:=n1_;have BK204:=n2_;have HK:=n3_;have HB:=n4_;have HI0:=n5_;clear n0_ n1_ n2_ n3_ n4_ n5_;(try clear hb);(try clear hb2);(try clear hk);(try clear hi))|((with_reducible refine gate_callee (f:=54) rfl ?_);refine goesL_ (some 39) rfl rfl Try.func54 (by kernel_rfl) rfl #[.pointer (some ⟨g,0,none⟩),.int .i64 2] rfl zzM2 ?_;(with_reducible refine (spec_l6Rd_pick.calls kj11 g s0_0 t210 2 t211 t212 w0 _ ?side1 ?side2 A24.out).mono ?_);(case side1=>repeat (first|(with_reducible first|exact HI0.out|apply IsS94.alloc|apply IsS94.drewN|apply IsS94.drew|apply IsS94.set_1|refine IsS94.far ?_ NB0_204.out _)|exact HI0.out));(case side2=>repeat (first|(with_reducible first|exact HB.out|apply zza|apply zzb|apply zzc|refine zzd ?_ (IsS94.ge HI0.out)|refine zzd ?_ GE204.out)|exact HB.out));rintro e w33 ⟨rfl,hi,hb,hk⟩;refine ⟨_,rfl,?_⟩;have n0_:=zzm (Kd.N_mono (Kd.N_keep (Kd.N_mono (ok:=fun k_=>(((w.heap.size≤k_))∧(some k_≠(.slice Ao15 t200.length co15:Value).ownBlock∧(k_≠gb204∧k_≠g)))) (zzN HO_3.out) (fun k_ hk_=>(⟨hk_,hk_.2.2.2⟩:_∧k_≠g))) hk (fun _ h=>h.2)) (fun _ h=>h.1));have n1_:=zzm (Kd.N_mono (Kd.N_keep (Kd.N_mono (ok:=fun k_=>(((w.heap.size≤k_))∧(some k_≠(u3:Value).ownBlock∧(k_≠gb204∧k_≠g)))) (zzN HO_205005.out) (fun k_ hk_=>(⟨hk_,hk_.2.2.2⟩:_∧k_≠g))) hk (fun _ h=>h.2)) (fun _ h=>h.1));have n2_:=zzm (KeepBut.blk hk (g':=gb204) (o:=.cells #[.bool false,.bool false,.int .i64 t198,.int .i64 0,.int .i64 0,.slice Ao15 t200.length co15] 27 (0,0)) (zzE BK204.out) NB204_0.out (by simp));have n3_:=zzm (KeepBut.trans (by repeat (first|(with_reducible first|exact HK.out|apply KeepBut.set_|apply keep_drewN|apply keep_drew|apply keep_alloc|refine keep_far ?_ GW204.out _)|exact HK.out)) hk (.inl rfl));have n4_:=zzm (hb);have n5_:=zzm (hi);clear HO_3 HO_205005 BK204 HK HB HI0;have HO_3:=n0_;have HO_205005:=n1_;have BK204:=n2_;have HK:=n3_;have HB:=n4_;have HI0:=n5_;clear n0_ n1_ n2_ n3_ n4_ n5_;(try clear hb);(try clear hb2);(try clear hk);(try clear hi))|((with_reducible refine gate_callee (f:=20) rfl ?_);refine goesL_ (some 41) rfl rfl Try.func20 (by kernel_rfl) rfl #[.int .i64 t207,.int .i64 0,.int .i64 x5_1,.int .i64 t209,.bool (t211==0)] rfl zzM2 ?_;(with_reducible refine (spec_MarkBatch.calls kj11 t207 0 x5_1 t209 (t211==0) t213 t214 t215 t216 t217 t218 true _ A25.out).mono ?_);rintro e w34 ⟨v219,rfl,ho0,hb⟩;refine ⟨_,rfl,?_⟩;have n0_:=zzm (Kd.N_elder' (zzN HO_3.out) (by first|exact Kd.N_base ho0|exact Kd.S_base ho0) hb);have n1_:=zzm (Kd.N_elder' (zzN HO_205005.out) (by first|exact Kd.N_base ho0|exact Kd.S_base ho0) hb);have n2_:=zzm (Kd.N_lower (Kd.N_mono (ok':=fun k_=>(w.heap.size≤k_)∧some k_≠(u3:Value).ownBlock∧some k_≠(.slice Ao15 t200.length co15:Value).ownBlock∧k_≠gb204∧k_≠g) ho0 (fun k_ hk_=>⟨(Nat.le_trans (keep_size (w:=w) (g:=g) (row:=none) (by repeat (first|(with_reducible first|exact HK.out|apply KeepBut.set_|apply keep_drewN|apply keep_drew|apply keep_alloc|refine keep_far ?_ GW204.out _)|exact HK.out))) hk_),(Kd.fresh' (Kd.N_lt (zzN HO_3.out)) k_ hk_),(Kd.fresh' (Kd.N_lt (zzN HO_205005.out)) k_ hk_),(Kd.freshB (g:=gb204) (o:=.cells #[.bool false,.bool false,.int .i64 t198,.int .i64 0,.int .i64 0,.slice Ao15 t200.length co15] 27 (0,0)) (zzE BK204.out) k_ hk_),(IsS94.fresh (by repeat (first|(with_reducible first|exact HI0.out|apply IsS94.alloc|apply IsS94.drewN|apply IsS94.drew|apply IsS94.set_1|refine IsS94.far ?_ NB0_204.out _)|exact HI0.out)) k_ hk_)⟩)) (keep_size (w:=w) (g:=g) (row:=none) (by repeat (first|(with_reducible first|exact HK.out|apply KeepBut.set_|apply keep_drewN|apply keep_drew|apply keep_alloc|refine keep_far ?_ GW204.out _)|exact HK.out))));have n3_:=zzm (zzh (g:=gb204) (o:=.cells #[.bool false,.bool false,.int .i64 t198,.int .i64 0,.int .i64 0,.slice Ao15 t200.length co15] 27 (0,0)) (zzE BK204.out) hb);have n4_:=zzm (IsS94.below (by repeat (first|(with_reducible first|exact HI0.out|apply IsS94.alloc|apply IsS94.drewN|apply IsS94.drew|apply IsS94.set_1|refine IsS94.far ?_ NB0_204.out _)|exact HI0.out)) hb);have n5_:=zzm (KeepBut.trans (by repeat (first|(with_reducible first|exact HK.out|apply KeepBut.set_|apply keep_drewN|apply keep_drew|apply keep_alloc|refine keep_far ?_ GW204.out _)|exact HK.out)) (KeepBut.of_below hb g none) (.inl rfl));have n6_:=zzm (zzp (by repeat (first|(with_reducible first|exact HB.out|apply zza|apply zzb|apply zzc|refine zzd ?_ (IsS94.ge HI0.out)|refine zzd ?_ GE204.out)|exact HB.out)) hb);clear HO_3 HO_205005 BK204 HI0 HK HB;have HO_3:=n0_;have HO_205005:=n1_;have HO220:=n2_;have BK204:=n3_;have HI0:=n4_;have HK:=n5_;have HB:=n6_;clear n0_ n1_ n2_ n3_ n4_ n5_ n6_;(try clear hb);(try clear hb2);(try clear hk);(try clear hi);(try clear ho0))|((with_reducible refine gate_dst (N:=8) rfl ?_);refine box_event ?hg (N:=8) ?hd (cs:=#[.bool false,.bool false,.int .i64 0,.int .i64 0,.int .i64 0,.slice none 0 0]) (t:=27) ?hr ?_;(case hd=>rfl);(case hg=>rfl);(case hr=>first|(go_simp;done)|(go_simp;rfl));intro gb222 hg w35 hbox hb;have n0_:=zzm (Kd.N_below (Kd.N_elderB (zzN HO_3.out) gb222 (Nat.le_of_eq hg.symm)) hb);have n1_:=zzm (Kd.N_below (Kd.N_elderB (zzN HO_205005.out) gb222 (Nat.le_of_eq hg.symm)) hb);have n2_:=zzm (Kd.N_below (Kd.N_elderB (zzN HO220.out) gb222 (Nat.le_of_eq hg.symm)) hb);have n3_:=zzm (zzh (g:=gb204) (o:=.cells #[.bool false,.bool false,.int .i64 t198,.int .i64 0,.int .i64 0,.slice Ao15 t200.length co15] 27 (0,0)) (zzE BK204.out) hb);have n4_:=zzm (IsS94.below (by repeat (first|(with_reducible first|exact HI0.out|apply IsS94.alloc|apply IsS94.drewN|apply IsS94.drew|apply IsS94.set_1|refine IsS94.far ?_ NB0_204.out _)|exact HI0.out)) hb);have n5_:=zzm (KeepBut.trans (by repeat (first|(with_reducible first|exact HK.out|apply KeepBut.set_|apply keep_drewN|apply keep_drew|apply keep_alloc|refine keep_far ?_ GW204.out _)|exact HK.out)) (KeepBut.of_below hb g none) (.inl rfl));have n6_:=zzm (zzp (by repeat (first|(with_reducible first|exact HB.out|apply zza|apply zzb|apply zzc|refine zzd ?_ (IsS94.ge HI0.out)|refine zzd ?_ GE204.out)|exact HB.out)) hb);have n7_:=zzm (hbox);have n8_:=zzm ((by rw [hg];exact (keep_size (w:=w) (g:=g) (row:=none) (by repeat (first|(with_reducible first|exact HK.out|apply KeepBut.set_|apply keep_drewN|apply keep_drew|apply keep_alloc|refine keep_far ?_ GW204.out _)|exact HK.out))):w.heap.size≤gb222));have n9_:=zzm ((Nat.le_trans HW0.out (by rw [hg];exact (keep_size (w:=w) (g:=g) (row:=none) (by repeat (first|(with_reducible first|exact HK.out|apply KeepBut.set_|apply keep_drewN|apply keep_drew|apply keep_alloc|refine keep_far ?_ GW204.out _)|exact HK.out))):w.heap.size≤gb222):w0.heap.size≤gb222));have n10_:=zzm ((by rw [hg];exact Nat.ne_of_lt (blk_lt (g:=gb204) (o:=.cells #[.bool false,.bool false,.int .i64 t198,.int .i64 0,.int .i64 0,.slice Ao15 t200.length co15] 27 (0,0)) (zzE BK204.out)):gb204≠gb222));have n11_:=zzm ((by rw [hg];exact Nat.ne_of_gt (blk_lt (g:=gb204) (o:=.cells #[.bool false,.bool false,.int .i64 t198,.int .i64 0,.int .i64 0,.slice Ao15 t200.length co15] 27 (0,0)) (zzE BK204.out)):gb222≠gb204));have n12_:=zzm ((by rw [hg];exact Nat.ne_of_lt (IsS94.lt (show IsS94 w0 _ g s0_0 t212 from by repeat (first|(with_reducible first|exact HI0.out|apply IsS94.alloc|apply IsS94.drewN|apply IsS94.drew|apply IsS94.set_1|refine IsS94.far ?_ NB0_204.out _)|exact HI0.out))):g≠gb222));have n13_:=zzm ((by rw [hg];exact Nat.ne_of_gt (IsS94.lt (show IsS94 w0 _ g s0_0 t212 from by repeat (first|(with_reducible first|exact HI0.out|apply IsS94.alloc|apply IsS94.drewN|apply IsS94.drew|apply IsS94.set_1|refine IsS94.far ?_ NB0_204.out _)|exact HI0.out))):gb222≠g));clear HO_3 HO_205005 HO220 BK204 HI0 HK HB;have HO_3:=n0_;have HO_205005:=n1_;have HO220:=n2_;have BK204:=n3_;have HI0:=n4_;have HK:=n5_;have HB:=n6_;have BK222:=n7_;have GW222:=n8_;have GE222:=n9_;have NB204_222:=n10_;have NB222_204:=n11_;have NB0_222:=n12_;have NB222_0:=n13_;clear n0_ n1_ n2_ n3_ n4_ n5_ n6_ n7_ n8_ n9_ n10_ n11_ n12_ n13_ hb hbox hg;have hnb36:=NB222_204.out;have hnc36:=NB204_222.out;have hnb37:=NB222_0.out;have hnc37:=NB0_222.out;obtain ⟨hcz38_0,hcz38_1,hcz38_2,hcz38_3,hcz38_4,hcz38_5,hfz38_0,hfz38_1,hfz38_2,hfz38_3,hfz38_4,hfz38_5⟩:=zzc6 BK222.out;obtain ⟨Ao39,co39,eo39⟩:=Kd.N_slice HO220.out;subst eo39)|((with_reducible refine gate_store (t:=27) (p:=8) rfl ?_);refine store_event (t:=27) (p:=8) (v:=?vo_w40) (w1:=((((((w35.setCell ⟨gb222,0,none⟩ (.bool t213)).setCell ⟨gb222,1,none⟩ (.bool t214)).setCell ⟨gb222,2,none⟩ (.int .i64 t215)).setCell ⟨gb222,3,none⟩ (.int .i64 t216)).setCell ⟨gb222,4,none⟩ (.int .i64 t217)).setCell ⟨gb222,5,none⟩ (.slice Ao39 t218.length co39))) ?hg ?ho ?hn ?hr ?_;(case ho=>rfl);(case hg=>rfl);(case hn=>rfl);(case hr=>first|(go_simp;done)|(go_simp;rfl));intro w40 hw;have n0_:Aside0 (Kd.N k27 27 w40 w.heap.size (fun k_=>(w.heap.size≤k_)∧some k_≠(.slice Ao15 t200.length co15:Value).ownBlock∧some k_≠(.slice Ao39 t218.length co39:Value).ownBlock∧k_≠gb204∧k_≠g∧k_≠gb222) u3 x3_1):=⟨(by rw [hw];exact (zzN (Kd.N_mono (Kd.N_far (p:=⟨gb222,5,none⟩) (Kd.N_far (p:=⟨gb222,4,none⟩) (Kd.N_far (p:=⟨gb222,3,none⟩) (Kd.N_far (p:=⟨gb222,2,none⟩) (Kd.N_far (p:=⟨gb222,1,none⟩) (Kd.N_far (p:=⟨gb222,0,none⟩) (Kd.N_mono HO_3.out (fun k_ hk=>(⟨hk,hk.2⟩:_∧k_≠gb222))) (fun _ hk=>hk.2) (.bool t213)) (fun _ hk=>hk.2) (.bool t214)) (fun _ hk=>hk.2) (.int .i64 t215)) (fun _ hk=>hk.2) (.int .i64 t216)) (fun _ hk=>hk.2) (.int .i64 t217)) (fun _ hk=>hk.2) (.slice Ao39 t218.length co39)) (fun _ hk=>⟨hk.1.1.1.1,⟨hk.1.1.1.2.1,⟨hk.1.1.2,⟨hk.1.1.1.2.2.1,⟨hk.1.1.1.2.2.2,hk.1.2⟩⟩⟩⟩⟩))))⟩;have n1_:Aside0 (Kd.N k34 34 w40 w.heap.size (fun k_=>(w.heap.size≤k_)∧some k_≠(u3:Value).ownBlock∧some k_≠(.slice Ao39 t218.length co39:Value).ownBlock∧k_≠gb204∧k_≠g∧k_≠gb222) (.slice Ao15 t200.length co15) t200):=⟨(by rw [hw];exact (zzN (Kd.N_mono (Kd.N_far (p:=⟨gb222,5,none⟩) (Kd.N_far (p:=⟨gb222,4,none⟩) (Kd.N_far (p:=⟨gb222,3,none⟩) (Kd.N_far (p:=⟨gb222,2,none⟩) (Kd.N_far (p:=⟨gb222,1,none⟩) (Kd.N_far (p:=⟨gb222,0,none⟩) (Kd.N_mono HO_205005.out (fun k_ hk=>(⟨hk,hk.2⟩:_∧k_≠gb222))) (fun _ hk=>hk.2) (.bool t213)) (fun _ hk=>hk.2) (.bool t214)) (fun _ hk=>hk.2) (.int .i64 t215)) (fun _ hk=>hk.2) (.int .i64 t216)) (fun _ hk=>hk.2) (.int .i64 t217)) (fun _ hk=>hk.2) (.slice Ao39 t218.length co39)) (fun _ hk=>⟨hk.1.1.1.1,⟨hk.1.1.1.2.1,⟨hk.1.1.2,⟨hk.1.1.1.2.2.1,⟨hk.1.1.1.2.2.2,hk.1.2⟩⟩⟩⟩⟩))))⟩;have n2_:Aside0 (Kd.N k34 34 w40 w.heap.size (fun k_=>(w.heap.size≤k_)∧some k_≠(u3:Value).ownBlock∧some k_≠(.slice Ao15 t200.length co15:Value).ownBlock∧k_≠gb204∧k_≠g∧k_≠gb222) (.slice Ao39 t218.length co39) t218):=⟨(by rw [hw];exact (zzN (Kd.N_mono (Kd.N_far (p:=⟨gb222,5,none⟩) (Kd.N_far (p:=⟨gb222,4,none⟩) (Kd.N_far (p:=⟨gb222,3,none⟩) (Kd.N_far (p:=⟨gb222,2,none⟩) (Kd.N_far (p:=⟨gb222,1,none⟩) (Kd.N_far (p:=⟨gb222,0,none⟩) (Kd.N_mono HO220.out (fun k_ hk=>(⟨hk,hk.2⟩:_∧k_≠gb222))) (fun _ hk=>hk.2) (.bool t213)) (fun _ hk=>hk.2) (.bool t214)) (fun _ hk=>hk.2) (.int .i64 t215)) (fun _ hk=>hk.2) (.int .i64 t216)) (fun _ hk=>hk.2) (.int .i64 t217)) (fun _ hk=>hk.2) (.slice Ao39 t218.length co39)) (fun _ hk=>⟨hk.1.1.1,⟨hk.1.1.2.1,⟨hk.1.1.2.2.1,⟨hk.1.1.2.2.2.1,⟨hk.1.1.2.2.2.2,hk.1.2⟩⟩⟩⟩⟩))))⟩;have n3_:Aside0 (w40.heap[gb204]? = some (.cells #[.bool false,.bool false,.int .i64 t198,.int .i64 0,.int .i64 0,.slice Ao15 t200.length co15] 27 (0,0))):=⟨(by rw [hw];exact (by (with_reducible repeat (first|apply zzf|apply zzg|apply zze));refine zzj ?_ NB204_222.out _;(with_reducible repeat (first|apply zzf|apply zzg|apply zze));refine zzj ?_ NB204_222.out _;(with_reducible repeat (first|apply zzf|apply zzg|apply zze));refine zzj ?_ NB204_222.out _;(with_reducible repeat (first|apply zzf|apply zzg|apply zze));refine zzj ?_ NB204_222.out _;(with_reducible repeat (first|apply zzf|apply zzg|apply zze));refine zzj ?_ NB204_222.out _;(with_reducible repeat (first|apply zzf|apply zzg|apply zze));refine zzj ?_ NB204_222.out _;(with_reducible repeat (first|apply zzf|apply zzg|apply zze));exact BK204.out))⟩;have n4_:Aside0 (w40.heap[gb222]? = some (.cells #[.bool t213,.bool t214,.int .i64 t215,.int .i64 t216,.int .i64 t217,.slice Ao39 t218.length co39] 27 (0,0))):=⟨(by rw [hw];exact (by (with_reducible repeat (first|apply zzf|apply zzg|apply zze));refine zzi (cs:=#[.bool t213,.bool t214,.int .i64 t215,.int .i64 t216,.int .i64 t217,.slice none 0 0]) ?_ 5 _ rfl;(with_reducible repeat (first|apply zzf|apply zzg|apply zze));refine zzi (cs:=#[.bool t213,.bool t214,.int .i64 t215,.int .i64 t216,.int .i64 0,.slice none 0 0]) ?_ 4 _ rfl;(with_reducible repeat (first|apply zzf|apply zzg|apply zze));refine zzi (cs:=#[.bool t213,.bool t214,.int .i64 t215,.int .i64 0,.int .i64 0,.slice none 0 0]) ?_ 3 _ rfl;(with_reducible repeat (first|apply zzf|apply zzg|apply zze));refine zzi (cs:=#[.bool t213,.bool t214,.int .i64 0,.int .i64 0,.int .i64 0,.slice none 0 0]) ?_ 2 _ rfl;(with_reducible repeat (first|apply zzf|apply zzg|apply zze));refine zzi (cs:=#[.bool t213,.bool false,.int .i64 0,.int .i64 0,.int .i64 0,.slice none 0 0]) ?_ 1 _ rfl;(with_reducible repeat (first|apply zzf|apply zzg|apply zze));refine zzi (cs:=#[.bool false,.bool false,.int .i64 0,.int .i64 0,.int .i64 0,.slice none 0 0]) ?_ 0 _ rfl;(with_reducible repeat (first|apply zzf|apply zzg|apply zze));exact BK222.out))⟩;have n5_:Aside0 (IsS94 w0 w40 g s0_0 t212):=⟨(by rw [hw];exact (by repeat (first|(with_reducible first|exact HI0.out|apply IsS94.alloc|apply IsS94.drewN|apply IsS94.drew|apply IsS94.set_1|refine IsS94.far ?_ NB0_204.out _|refine IsS94.far ?_ NB0_222.out _)|exact HI0.out)))⟩;have n6_:Aside0 (KeepBut w w40 g none):=⟨(by rw [hw];exact (by repeat (first|(with_reducible first|exact HK.out|apply KeepBut.set_|apply keep_drewN|apply keep_drew|apply keep_alloc|refine keep_far ?_ GW204.out _|refine keep_far ?_ GW222.out _)|exact HK.out)))⟩;have n7_:Aside0 (Below w0.heap.size w0 w40):=⟨(by rw [hw];exact (by repeat (first|(with_reducible first|exact HB.out|apply zza|apply zzb|apply zzc|refine zzd ?_ (IsS94.ge HI0.out)|refine zzd ?_ GE204.out|refine zzd ?_ GE222.out)|exact HB.out)))⟩;clear hw HO_3 HO_205005 HO220 BK204 BK222 HI0 HK HB;have HO_3:=n0_;have HO_205005:=n1_;have HO220:=n2_;have BK204:=n3_;have BK222:=n4_;have HI0:=n5_;have HK:=n6_;have HB:=n7_;clear n0_ n1_ n2_ n3_ n4_ n5_ n6_ n7_;obtain ⟨hcz41_0,hcz41_1,hcz41_2,hcz41_3,hcz41_4,hcz41_5,hfz41_0,hfz41_1,hfz41_2,hfz41_3,hfz41_4,hfz41_5⟩:=zzc6 BK222.out;have hnb42:=NB204_0.out;have hnc42:=NB0_204.out;obtain ⟨hcz43_0,hcz43_1,hcz43_2,hcz43_3,hcz43_4,hcz43_5,hfz43_0,hfz43_1,hfz43_2,hfz43_3,hfz43_4,hfz43_5⟩:=zzc6 BK204.out)|((with_reducible refine gate_store (t:=27) (p:=7) rfl ?_);refine store_event (t:=27) (p:=7) (v:=?vo_w44) (w1:=((((((w40.setCell ⟨gb204,0,none⟩ (.bool t213)).setCell ⟨gb204,1,none⟩ (.bool t214)).setCell ⟨gb204,2,none⟩ (.int .i64 t215)).setCell ⟨gb204,3,none⟩ (.int .i64 t216)).setCell ⟨gb204,4,none⟩ (.int .i64 t217)).setCell ⟨gb204,5,none⟩ (.slice Ao39 t218.length co39))) ?hg ?ho ?hn ?hr ?_;(case ho=>rfl);(case hg=>rfl);(case hn=>rfl);(case hr=>first|(go_simp;done)|(go_simp;rfl));intro w44 hw;have n0_:Aside0 (Kd.N k27 27 w44 w.heap.size (fun k_=>(w.heap.size≤k_)∧some k_≠(.slice Ao15 t200.length co15:Value).ownBlock∧some k_≠(.slice Ao39 t218.length co39:Value).ownBlock∧k_≠gb204∧k_≠g∧k_≠gb222) u3 x3_1):=⟨(by rw [hw];exact (zzN (Kd.N_mono (Kd.N_far (p:=⟨gb204,5,none⟩) (Kd.N_far (p:=⟨gb204,4,none⟩) (Kd.N_far (p:=⟨gb204,3,none⟩) (Kd.N_far (p:=⟨gb204,2,none⟩) (Kd.N_far (p:=⟨gb204,1,none⟩) (Kd.N_far (p:=⟨gb204,0,none⟩) (Kd.N_mono HO_3.out (fun k_ hk=>(⟨hk,hk.2.2.2.1⟩:_∧k_≠gb204))) (fun _ hk=>hk.2) (.bool t213)) (fun _ hk=>hk.2) (.bool t214)) (fun _ hk=>hk.2) (.int .i64 t215)) (fun _ hk=>hk.2) (.int .i64 t216)) (fun _ hk=>hk.2) (.int .i64 t217)) (fun _ hk=>hk.2) (.slice Ao39 t218.length co39)) (fun _ hk=>⟨hk.1.1,⟨hk.1.2.1,⟨hk.1.2.2.1,⟨hk.1.2.2.2.1,⟨hk.1.2.2.2.2.1,hk.1.2.2.2.2.2⟩⟩⟩⟩⟩))))⟩;have n1_:Aside0 (Kd.N k34 34 w44 w.heap.size (fun k_=>(w.heap.size≤k_)∧some k_≠(u3:Value).ownBlock∧some k_≠(.slice Ao39 t218.length co39:Value).ownBlock∧k_≠gb204∧k_≠g∧k_≠gb222) (.slice Ao15 t200.length co15) t200):=⟨(by rw [hw];exact (zzN (Kd.N_mono (Kd.N_far (p:=⟨gb204,5,none⟩) (Kd.N_far (p:=⟨gb204,4,none⟩) (Kd.N_far (p:=⟨gb204,3,none⟩) (Kd.N_far (p:=⟨gb204,2,none⟩) (Kd.N_far (p:=⟨gb204,1,none⟩) (Kd.N_far (p:=⟨gb204,0,none⟩) (Kd.N_mono HO_205005.out (fun k_ hk=>(⟨hk,hk.2.2.2.1⟩:_∧k_≠gb204))) (fun _ hk=>hk.2) (.bool t213)) (fun _ hk=>hk.2) (.bool t214)) (fun _ hk=>hk.2) (.int .i64 t215)) (fun _ hk=>hk.2) (.int .i64 t216)) (fun _ hk=>hk.2) (.int .i64 t217)) (fun _ hk=>hk.2) (.slice Ao39 t218.length co39)) (fun _ hk=>⟨hk.1.1,⟨hk.1.2.1,⟨hk.1.2.2.1,⟨hk.1.2.2.2.1,⟨hk.1.2.2.2.2.1,hk.1.2.2.2.2.2⟩⟩⟩⟩⟩))))⟩;have n2_:Aside0 (Kd.N k34 34 w44 w.heap.size (fun k_=>(w.heap.size≤k_)∧some k_≠(u3:Value).ownBlock∧some k_≠(.slice Ao15 t200.length co15:Value).ownBlock∧k_≠gb204∧k_≠g∧k_≠gb222) (.slice Ao39 t218.length co39) t218):=⟨(by rw [hw];exact (zzN (Kd.N_mono (Kd.N_far (p:=⟨gb204,5,none⟩) (Kd.N_far (p:=⟨gb204,4,none⟩) (Kd.N_far (p:=⟨gb204,3,none⟩) (Kd.N_far (p:=⟨gb204,2,none⟩) (Kd.N_far (p:=⟨gb204,1,none⟩) (Kd.N_far (p:=⟨gb204,0,none⟩) (Kd.N_mono HO220.out (fun k_ hk=>(⟨hk,hk.2.2.2.1⟩:_∧k_≠gb204))) (fun _ hk=>hk.2) (.bool t213)) (fun _ hk=>hk.2) (.bool t214)) (fun _ hk=>hk.2) (.int .i64 t215)) (fun _ hk=>hk.2) (.int .i64 t216)) (fun _ hk=>hk.2) (.int .i64 t217)) (fun _ hk=>hk.2) (.slice Ao39 t218.length co39)) (fun _ hk=>⟨hk.1.1,⟨hk.1.2.1,⟨hk.1.2.2.1,⟨hk.1.2.2.2.1,⟨hk.1.2.2.2.2.1,hk.1.2.2.2.2.2⟩⟩⟩⟩⟩))))⟩;have n3_:Aside0 (w44.heap[gb204]? = some (.cells #[.bool t213,.bool t214,.int .i64 t215,.int .i64 t216,.int .i64 t217,.slice Ao39 t218.length co39] 27 (0,0))):=⟨(by rw [hw];exact (by (with_reducible repeat (first|apply zzf|apply zzg|apply zze));refine zzi (cs:=#[.bool t213,.bool t214,.int .i64 t215,.int .i64 t216,.int .i64 t217,.slice Ao15 t200.length co15]) ?_ 5 _ rfl;(with_reducible repeat (first|apply zzf|apply zzg|apply zze));refine zzi (cs:=#[.bool t213,.bool t214,.int .i64 t215,.int .i64 t216,.int .i64 0,.slice Ao15 t200.length co15]) ?_ 4 _ rfl;(with_reducible repeat (first|apply zzf|apply zzg|apply zze));refine zzi (cs:=#[.bool t213,.bool t214,.int .i64 t215,.int .i64 0,.int .i64 0,.slice Ao15 t200.length co15]) ?_ 3 _ rfl;(with_reducible repeat (first|apply zzf|apply zzg|apply zze));refine zzi (cs:=#[.bool t213,.bool t214,.int .i64 t198,.int .i64 0,.int .i64 0,.slice Ao15 t200.length co15]) ?_ 2 _ rfl;(with_reducible repeat (first|apply zzf|apply zzg|apply zze));refine zzi (cs:=#[.bool t213,.bool false,.int .i64 t198,.int .i64 0,.int .i64 0,.slice Ao15 t200.length co15]) ?_ 1 _ rfl;(with_reducible repeat (first|apply zzf|apply zzg|apply zze));refine zzi (cs:=#[.bool false,.bool false,.int .i64 t198,.int .i64 0,.int .i64 0,.slice Ao15 t200.length co15]) ?_ 0 _ rfl;(with_reducible repeat (first|apply zzf|apply zzg|apply zze));exact BK204.out))⟩;have n4_:Aside0 (w44.heap[gb222]? = some (.cells #[.bool t213,.bool t214,.int .i64 t215,.int .i64 t216,.int .i64 t217,.slice Ao39 t218.length co39] 27 (0,0))):=⟨(by rw [hw];exact (by (with_reducible repeat (first|apply zzf|apply zzg|apply zze));refine zzj ?_ NB222_204.out _;(with_reducible repeat (first|apply zzf|apply zzg|apply zze));refine zzj ?_ NB222_204.out _;(with_reducible repeat (first|apply zzf|apply zzg|apply zze));refine zzj ?_ NB222_204.out _;(with_reducible repeat (first|apply zzf|apply zzg|apply zze));refine zzj ?_ NB222_204.out _;(with_reducible repeat (first|apply zzf|apply zzg|apply zze));refine zzj ?_ NB222_204.out _;(with_reducible repeat (first|apply zzf|apply zzg|apply zze));refine zzj ?_ NB222_204.out _;(with_reducible repeat (first|apply zzf|apply zzg|apply zze));exact BK222.out))⟩;have n5_:Aside0 (IsS94 w0 w44 g s0_0 t212):=⟨(by rw [hw];exact (by repeat (first|(with_reducible first|exact HI0.out|apply IsS94.alloc|apply IsS94.drewN|apply IsS94.drew|apply IsS94.set_1|refine IsS94.far ?_ NB0_204.out _|refine IsS94.far ?_ NB0_222.out _)|exact HI0.out)))⟩;have n6_:Aside0 (KeepBut w w44 g none):=⟨(by rw [hw];exact (by repeat (first|(with_reducible first|exact HK.out|apply KeepBut.set_|apply keep_drewN|apply keep_drew|apply keep_alloc|refine keep_far ?_ GW204.out _|refine keep_far ?_ GW222.out _)|exact HK.out)))⟩;have n7_:Aside0 (Below w0.heap.size w0 w44):=⟨(by rw [hw];exact (by repeat (first|(with_reducible first|exact HB.out|apply zza|apply zzb|apply zzc|refine zzd ?_ (IsS94.ge HI0.out)|refine zzd ?_ GE204.out|refine zzd ?_ GE222.out)|exact HB.out)))⟩;clear hw HO_3 HO_205005 HO220 BK204 BK222 HI0 HK HB;have HO_3:=n0_;have HO_205005:=n1_;have HO220:=n2_;have BK204:=n3_;have BK222:=n4_;have HI0:=n5_;have HK:=n6_;have HB:=n7_;clear n0_ n1_ n2_ n3_ n4_ n5_ n6_ n7_;obtain ⟨hcz45_0,hcz45_1,hcz45_2,hcz45_3,hcz45_4,hcz45_5,hfz45_0,hfz45_1,hfz45_2,hfz45_3,hfz45_4,hfz45_5⟩:=zzc6 BK204.out)|((with_reducible refine gate_builtin (b:=.append) (xs:=#[.tmp 49,.tmp 51]) rfl ?_);at_builtin;refine Kd.N_append k27 w.heap.size rfl (.tmp 49) (.tmp 51) 39 27 (.agg #[(.bool false),(.bool false),(.int .i64 0),(.int .i64 0),(.int .i64 0),(.slice none 0 0)]) 56 rfl Try.underlying39 info27 rfl (by decide) (by omega) u3 x3_1 (⟨t213,t214,t215,t216,t217,t218⟩:S27) [.bool t213,.bool t214,.int .i64 t215,.int .i64 t216,.int .i64 t217,.slice Ao39 t218.length co39] (fun k_=>(w.heap.size≤k_)∧some k_≠(.slice Ao15 t200.length co15:Value).ownBlock∧k_≠gb204∧k_≠gb222∧k_≠g) (fun k_=>((fun k_=>(w.heap.size≤k_)∧some k_≠(.slice Ao15 t200.length co15:Value).ownBlock∧k_≠gb204∧k_≠gb222∧k_≠g)) k_∧some k_≠(u3:Value).ownBlock) rfl rfl ?aP (fun _ hk=>hk) ?aF ?aO (Below.refl _ _) ?aS ?aL ?_;(case aP=>exact (k27_mkF _ _ (⟨t213,t214,t215,t216,t217,t218⟩:S27) (Kd.N_reads' (Kd.N_mono (ok':=(fun k_=>((fun k_=>(w.heap.size≤k_)∧some k_≠(.slice Ao15 t200.length co15:Value).ownBlock∧k_≠gb204∧k_≠gb222∧k_≠g)) k_∧some k_≠(u3:Value).ownBlock)) (HO220.out) (fun k_ hk=>⟨⟨hk.1,⟨hk.2.2.1,⟨hk.2.2.2.1,⟨hk.2.2.2.2.2,hk.2.2.2.2.1⟩⟩⟩⟩,hk.2.1⟩))).2.1 (Kd.N_F (Kd.N_mono (ok':=(fun k_=>((fun k_=>(w.heap.size≤k_)∧some k_≠(.slice Ao15 t200.length co15:Value).ownBlock∧k_≠gb204∧k_≠gb222∧k_≠g)) k_∧some k_≠(u3:Value).ownBlock)) (HO220.out) (fun k_ hk=>⟨⟨hk.1,⟨hk.2.2.1,⟨hk.2.2.2.1,⟨hk.2.2.2.2.2,hk.2.2.2.2.1⟩⟩⟩⟩,hk.2.1⟩)))));(case aF=>exact (fun k_ hk=>⟨(Nat.le_trans (keep_size (w:=w) (g:=g) (row:=none) (by repeat (first|(with_reducible first|exact HK.out|apply KeepBut.set_|apply keep_drewN|apply keep_drew|apply keep_alloc|refine keep_far ?_ GW204.out _|refine keep_far ?_ GW222.out _)|exact HK.out))) hk),Kd.fresh' (Kd.N_lt (zzN HO_205005.out)) k_ hk,Kd.freshB (g:=gb204) (o:=.cells #[.bool t213,.bool t214,.int .i64 t215,.int .i64 t216,.int .i64 t217,.slice Ao39 t218.length co39] 27 (0,0)) (zzE BK204.out) k_ hk,Kd.freshB (g:=gb222) (o:=.cells #[.bool t213,.bool t214,.int .i64 t215,.int .i64 t216,.int .i64 t217,.slice Ao39 t218.length co39] 27 (0,0)) (zzE BK222.out) k_ hk,IsS94.fresh (by repeat (first|(with_reducible first|exact HI0.out|apply IsS94.alloc|apply IsS94.drewN|apply IsS94.drew|apply IsS94.set_1|refine IsS94.far ?_ NB0_204.out _|refine IsS94.far ?_ NB0_222.out _)|exact HI0.out)) k_ hk⟩));(case aO=>exact (zzN (Kd.N_mono HO_3.out (fun _ hk=>⟨hk.1,⟨hk.2.1,⟨hk.2.2.2.1,⟨hk.2.2.2.2.2,hk.2.2.2.2.1⟩⟩⟩⟩))));(case aS=>exact (keep_size (w:=w) (g:=g) (row:=none) (by repeat (first|(with_reducible first|exact HK.out|apply KeepBut.set_|apply keep_drewN|apply keep_drew|apply keep_alloc|refine keep_far ?_ GW204.out _|refine keep_far ?_ GW222.out _)|exact HK.out))));(case aL=>have:=LMc27.out;omega);intro v224 w46 ho hb hg hat;rw [← Ny223.out] at ho;have nq_:=zzm (Kd.N_afterv (ok:=fun k_=>(w.heap.size≤k_)) (by (with_reducible repeat (first|apply Kd.N_alloc|apply Kd.N_drewN|apply Kd.N_drew));exact Kd.N_mono HO220.out (fun k_ hk=>by (try simp only [and_assoc] at hk);(try simp only [and_assoc]);repeat' (first|exact hk.1|exact hk.2.1|exact hk.2.2.1|exact hk.2.2.2.1|exact hk.2.2.2.2.1|exact hk.2.2.2.2.2.1|exact hk.2.2.2.2.2.2|exact hk.2.2.2.2.2|exact hk.2.2.2.2|exact hk.2.2.2|exact hk.2.2|exact hk.2|exact hk|apply And.intro))) hg hat);have n0_:=zzm (Kd.N_afterv (ok:=(fun k_=>(w.heap.size≤k_)∧some k_≠(.slice Ao39 t218.length co39:Value).ownBlock∧k_≠gb204∧k_≠g∧k_≠gb222)) (zzN (Kd.N_mono HO_205005.out (fun _ hk=>⟨⟨hk.1,⟨hk.2.2.1,⟨hk.2.2.2.1,⟨hk.2.2.2.2.1,hk.2.2.2.2.2⟩⟩⟩⟩,hk.2.1⟩))) hg hat);have n1_:=zzm (blk_grown (g:=gb204) (o:=.cells #[.bool t213,.bool t214,.int .i64 t215,.int .i64 t216,.int .i64 t217,.slice Ao39 t218.length co39] 27 (0,0)) (zzE BK204.out) hg (Kd.N_away HO_3.out (fun _ hk=>hk.2.2.2.1)));have n2_:=zzm (IsS94.grown (by repeat (first|(with_reducible first|exact HI0.out|apply IsS94.alloc|apply IsS94.drewN|apply IsS94.drew|apply IsS94.set_1|refine IsS94.far ?_ NB0_204.out _|refine IsS94.far ?_ NB0_222.out _)|exact HI0.out)) hg (IsS94.own_neN HI0.out HO_3.out (by decide)));have n3_:=zzm (blk_grown (g:=gb222) (o:=.cells #[.bool t213,.bool t214,.int .i64 t215,.int .i64 t216,.int .i64 t217,.slice Ao39 t218.length co39] 27 (0,0)) (zzE BK222.out) hg (Kd.N_away HO_3.out (fun _ hk=>hk.2.2.2.2.2)));have n4_:=zzm (below_weaken (by repeat (first|(with_reducible first|exact HB.out|apply zza|apply zzb|apply zzc|refine zzd ?_ (IsS94.ge HI0.out)|refine zzd ?_ GE204.out|refine zzd ?_ GE222.out)|exact HB.out)) HL.out hb);have n5_:=zzm (KeepBut.trans (by repeat (first|(with_reducible first|exact HK.out|apply KeepBut.set_|apply keep_drewN|apply keep_drew|apply keep_alloc|refine keep_far ?_ GW204.out _|refine keep_far ?_ GW222.out _)|exact HK.out)) (KeepBut.of_grown hg g) (Kd.N_base2 HO_3.out));have n6_:=zzm (ho);clear HO_205005 BK204 HI0 BK222 HB HK HO_3 HO220;have HO220:=nq_;clear nq_;have HO_205005:=n0_;have BK204:=n1_;have HI0:=n2_;have BK222:=n3_;have HB:=n4_;have HK:=n5_;have HO225:=n6_;clear n0_ n1_ n2_ n3_ n4_ n5_ n6_ ho hb hg hat;obtain ⟨hcz47_0,hcz47_1,hcz47_2,hcz47_3,hcz47_4,hcz47_5,hfz47_0,hfz47_1,hfz47_2,hfz47_3,hfz47_4,hfz47_5⟩:=zzc6 BK204.out;have p226 : 0≤((ji28):Int):=zzt;have q226:(ji28) < (t218.length:Int):=zzt;obtain ⟨ad226,A226_3,c226_3,A226_5,c226_5,e226,hx226_0,hx226_1,hx226_2,hx226_3,hx226_4,hx226_5,hl226_3,hi226_3,hl226_5,hi226_5⟩:=at_T34 (Kd.N_reads' HO220.out).2.2 (ji28) p226 q226;cases e226;have HR226_3:=zzm hi226_3;have HC226_3:=zzm hl226_3;clear hi226_3 hl226_3;have HR226_5:=zzm hi226_5;have HC226_5:=zzm hl226_5;clear hi226_5 hl226_5;replace p226:=eq_true p226;replace q226:=eq_true q226))
           go_roundg kj11
           case measure=>have:=HK1.out;have:=HJ11.out;omega
           case rel=>exact ⟨(y223),(wrap64 (((rd_T34 t218 (ji28)).f0)+1)),(wrap64 (x6_1+1)),(t212),(by first|rfl|(simp;done)|(simp only [← hji28] <;> (first|rfl|simp))|(simp [*];done)),(by first|rfl|(simp;done)|(simp [*];done)),H',⟨by have:=HK1.out;have:=HJ11.out;omega⟩,⟨by (with_reducible repeat (first|apply Kd.N_alloc|apply Kd.N_drewN|apply Kd.N_drew));exact Kd.N_mono HO225.out (fun _ hk=>⟨hk.1,hk.2.2.2.2⟩)⟩,⟨by repeat (first|(with_reducible first|exact HI0.out|apply IsS94.alloc|apply IsS94.drewN|apply IsS94.drew|apply IsS94.set_1|refine IsS94.far ?_ NB0_204.out _|refine IsS94.far ?_ NB0_222.out _)|exact HI0.out)⟩,⟨by repeat (first|(with_reducible first|exact HK.out|apply KeepBut.set_|apply keep_drewN|apply keep_drew|apply keep_alloc|refine keep_far ?_ GW204.out _|refine keep_far ?_ GW222.out _)|exact HK.out)⟩,⟨by repeat (first|(with_reducible first|exact HB.out|apply zza|apply zzb|apply zzc|refine zzd ?_ (IsS94.ge HI0.out)|refine zzd ?_ GE204.out|refine zzd ?_ GE222.out)|exact HB.out)⟩⟩
          ·
           rw [if_neg c30] at H;exact absurd H (by simp)
         ·
          rw [if_neg c29] at H;exact absurd H (by simp)
        ·
         rw [if_neg c27] at H;exact absurd H (by simp)
       ·
        replace c26:=Bool.eq_false_iff.mpr c26;subst c26;have H1:(if x3_1.length < 2513169434916 then (if 0≤(wrap64 ((t200.length:Int) - 1)) then (if (wrap64 ((t200.length:Int) - 1)) < (t200.length:Int) then (spec_l92Decided.l0 kj11 (x3_1 ++ [(⟨false,false,t198,0,0,t200⟩:S27)]) (wrap64 (2+t191)) (wrap64 (((rd_T34 t200 (wrap64 ((t200.length:Int) - 1))).f0)+1)) (wrap64 (x6_1+1)) s0_0 t212) else (none)) else (none)) else (none))=some (r1,r2):=by rw [if_neg (show ¬ (false=true) by decide)] at H;exact H
        clear H;have H:=H1;clear H1;by_cases c48:x3_1.length < 2513169434916
        ·
         rw [if_pos c48] at H;have LMc48:=zzm c48;clear c48;obtain ⟨y227,hy227⟩:∃ y_:List (S27),y_=(x3_1 ++ [(⟨false,false,t198,0,0,t200⟩:S27)]):=⟨_,rfl⟩;replace H:(if 0≤(wrap64 ((t200.length:Int) - 1)) then (if (wrap64 ((t200.length:Int) - 1)) < (t200.length:Int) then (spec_l92Decided.l0 kj11 y227 (wrap64 (2+t191)) (wrap64 (((rd_T34 t200 (wrap64 ((t200.length:Int) - 1))).f0)+1)) (wrap64 (x6_1+1)) s0_0 t212) else (none)) else (none))=some (r1,r2):=by first|(rw [hy227];with_reducible exact H)|(have H2_:=(Option.bind_some _ _).symm.trans H;rw [hy227];with_reducible exact H2_)|(have H2_:=(Option.bind_some _ _).symm.trans H;with_reducible exact H2_)|with_reducible exact H|(rw [hy227];exact H)|exact H
         have Ny227:=zzm hy227;clear hy227;obtain ⟨ji49,hji49⟩:∃ j_:Int,(wrap64 ((t200.length:Int) - 1))=j_:=⟨_,rfl⟩;replace H:(if 0≤(ji49) then (if (ji49) < (t200.length:Int) then (spec_l92Decided.l0 kj11 y227 (wrap64 (2+t191)) (wrap64 (((rd_T34 t200 (ji49)).f0)+1)) (wrap64 (x6_1+1)) s0_0 t212) else (none)) else (none))=some (r1,r2):=by first|(rw [hji49] at H;exact H)|(simp only [hji49] at H ⊢;exact H)
         (try rw [hji49] at A22);(try rw [hji49] at A23);(try rw [hji49] at A24);(try rw [hji49] at A25);have hji49w:(IntKind.i64.wrap ((t200.length:Int) - 1))=ji49:=(i64_w _).trans hji49;by_cases c50 : 0≤(ji49)
         ·
          rw [if_pos c50] at H;have c50b0:decide (0≤(ji49))=true:=decide_eq_true c50;clear c50;by_cases c51:(ji49) < (t200.length:Int)
          ·
           rw [if_pos c51] at H;have c51b0:decide ((ji49) < (t200.length:Int))=true:=decide_eq_true c51;clear c51;have H':=zzm H;clear H;go_wp2_with (first|((with_reducible refine gate_callee (f:=54) rfl ?_);refine goesL_ (some 34) rfl rfl Try.func54 (by kernel_rfl) rfl #[.pointer (some ⟨g,0,none⟩),.int .i64 2] rfl zzM2 ?_;(with_reducible refine (spec_l6Rd_pick.calls kj11 g s0_0 t206 2 t207 t208 w0 _ ?side1 ?side2 A22.out).mono ?_);(case side1=>repeat (first|(with_reducible first|exact HI0.out|apply IsS94.alloc|apply IsS94.drewN|apply IsS94.drew|apply IsS94.set_1|refine IsS94.far ?_ NB0_204.out _)|exact HI0.out));(case side2=>repeat (first|(with_reducible first|exact HB.out|apply zza|apply zzb|apply zzc|refine zzd ?_ (IsS94.ge HI0.out)|refine zzd ?_ GE204.out)|exact HB.out));rintro e w52 ⟨rfl,hi,hb,hk⟩;refine ⟨_,rfl,?_⟩;have n0_:=zzm (Kd.N_mono (Kd.N_keep (Kd.N_mono (ok:=fun k_=>(((w.heap.size≤k_))∧(some k_≠(.slice Ao15 t200.length co15:Value).ownBlock∧(k_≠gb204∧k_≠g)))) (zzN HO_3.out) (fun k_ hk_=>(⟨hk_,hk_.2.2.2⟩:_∧k_≠g))) hk (fun _ h=>h.2)) (fun _ h=>h.1));have n1_:=zzm (Kd.N_mono (Kd.N_keep (Kd.N_mono (ok:=fun k_=>(((w.heap.size≤k_))∧(some k_≠(u3:Value).ownBlock∧(k_≠gb204∧k_≠g)))) (zzN HO_205005.out) (fun k_ hk_=>(⟨hk_,hk_.2.2.2⟩:_∧k_≠g))) hk (fun _ h=>h.2)) (fun _ h=>h.1));have n2_:=zzm (KeepBut.blk hk (g':=gb204) (o:=.cells #[.bool false,.bool false,.int .i64 t198,.int .i64 0,.int .i64 0,.slice Ao15 t200.length co15] 27 (0,0)) (zzE BK204.out) NB204_0.out (by simp));have n3_:=zzm (KeepBut.trans (by repeat (first|(with_reducible first|exact HK.out|apply KeepBut.set_|apply keep_drewN|apply keep_drew|apply keep_alloc|refine keep_far ?_ GW204.out _)|exact HK.out)) hk (.inl rfl));have n4_:=zzm (hb);have n5_:=zzm (hi);clear HO_3 HO_205005 BK204 HK HB HI0;have HO_3:=n0_;have HO_205005:=n1_;have BK204:=n2_;have HK:=n3_;have HB:=n4_;have HI0:=n5_;clear n0_ n1_ n2_ n3_ n4_ n5_;(try clear hb);(try clear hb2);(try clear hk);(try clear hi))|((with_reducible refine gate_callee (f:=54) rfl ?_);refine goesL_ (some 37) rfl rfl Try.func54 (by kernel_rfl) rfl #[.pointer (some ⟨g,0,none⟩),.int .i64 100] rfl zzM2 ?_;(with_reducible refine (spec_l6Rd_pick.calls kj11 g s0_0 t208 100 t209 t210 w0 _ ?side1 ?side2 A23.out).mono ?_);(case side1=>repeat (first|(with_reducible first|exact HI0.out|apply IsS94.alloc|apply IsS94.drewN|apply IsS94.drew|apply IsS94.set_1|refine IsS94.far ?_ NB0_204.out _)|exact HI0.out));(case side2=>repeat (first|(with_reducible first|exact HB.out|apply zza|apply zzb|apply zzc|refine zzd ?_ (IsS94.ge HI0.out)|refine zzd ?_ GE204.out)|exact HB.out));rintro e w53 ⟨rfl,hi,hb,hk⟩;refine ⟨_,rfl,?_⟩;have n0_:=zzm (Kd.N_mono (Kd.N_keep (Kd.N_mono (ok:=fun k_=>(((w.heap.size≤k_))∧(some k_≠(.slice Ao15 t200.length co15:Value).ownBlock∧(k_≠gb204∧k_≠g)))) (zzN HO_3.out) (fun k_ hk_=>(⟨hk_,hk_.2.2.2⟩:_∧k_≠g))) hk (fun _ h=>h.2)) (fun _ h=>h.1));have n1_:=zzm (Kd.N_mono (Kd.N_keep (Kd.N_mono (ok:=fun k_=>(((w.heap.size≤k_))∧(some k_≠(u3:Value).ownBlock∧(k_≠gb204∧k_≠g)))) (zzN HO_205005.out) (fun k_ hk_=>(⟨hk_,hk_.2.2.2⟩:_∧k_≠g))) hk (fun _ h=>h.2)) (fun _ h=>h.1));have n2_:=zzm (KeepBut.blk hk (g':=gb204) (o:=.cells #[.bool false,.bool false,.int .i64 t198,.int .i64 0,.int .i64 0,.slice Ao15 t200.length co15] 27 (0,0)) (zzE BK204.out) NB204_0.out (by simp));have n3_:=zzm (KeepBut.trans (by repeat (first|(with_reducible first|exact HK.out|apply KeepBut.set_|apply keep_drewN|apply keep_drew|apply keep_alloc|refine keep_far ?_ GW204.out _)|exact HK.out)) hk (.inl rfl));have n4_:=zzm (hb);have n5_:=zzm (hi);clear HO_3 HO_205005 BK204 HK HB HI0;have HO_3:=n0_;have HO_205005:=n1_;have BK204:=n2_;have HK:=n3_;have HB:=n4_;have HI0:=n5_;clear n0_ n1_ n2_ n3_ n4_ n5_;(try clear hb);(try clear hb2);(try clear hk);(try clear hi))|((with_reducible refine gate_callee (f:=54) rfl ?_);refine goesL_ (some 39) rfl rfl Try.func54 (by kernel_rfl) rfl #[.pointer (some ⟨g,0,none⟩),.int .i64 2] rfl zzM2 ?_;(with_reducible refine (spec_l6Rd_pick.calls kj11 g s0_0 t210 2 t211 t212 w0 _ ?side1 ?side2 A24.out).mono ?_);(case side1=>repeat (first|(with_reducible first|exact HI0.out|apply IsS94.alloc|apply IsS94.drewN|apply IsS94.drew|apply IsS94.set_1|refine IsS94.far ?_ NB0_204.out _)|exact HI0.out));(case side2=>repeat (first|(with_reducible first|exact HB.out|apply zza|apply zzb|apply zzc|refine zzd ?_ (IsS94.ge HI0.out)|refine zzd ?_ GE204.out)|exact HB.out));rintro e w54 ⟨rfl,hi,hb,hk⟩;refine ⟨_,rfl,?_⟩;have n0_:=zzm (Kd.N_mono (Kd.N_keep (Kd.N_mono (ok:=fun k_=>(((w.heap.size≤k_))∧(some k_≠(.slice Ao15 t200.length co15:Value).ownBlock∧(k_≠gb204∧k_≠g)))) (zzN HO_3.out) (fun k_ hk_=>(⟨hk_,hk_.2.2.2⟩:_∧k_≠g))) hk (fun _ h=>h.2)) (fun _ h=>h.1));have n1_:=zzm (Kd.N_mono (Kd.N_keep (Kd.N_mono (ok:=fun k_=>(((w.heap.size≤k_))∧(some k_≠(u3:Value).ownBlock∧(k_≠gb204∧k_≠g)))) (zzN HO_205005.out) (fun k_ hk_=>(⟨hk_,hk_.2.2.2⟩:_∧k_≠g))) hk (fun _ h=>h.2)) (fun _ h=>h.1));have n2_:=zzm (KeepBut.blk hk (g':=gb204) (o:=.cells #[.bool false,.bool false,.int .i64 t198,.int .i64 0,.int .i64 0,.slice Ao15 t200.length co15] 27 (0,0)) (zzE BK204.out) NB204_0.out (by simp));have n3_:=zzm (KeepBut.trans (by repeat (first|(with_reducible first|exact HK.out|apply KeepBut.set_|apply keep_drewN|apply keep_drew|apply keep_alloc|refine keep_far ?_ GW204.out _)|exact HK.out)) hk (.inl rfl));have n4_:=zzm (hb);have n5_:=zzm (hi);clear HO_3 HO_205005 BK204 HK HB HI0;have HO_3:=n0_;have HO_205005:=n1_;have BK204:=n2_;have HK:=n3_;have HB:=n4_;have HI0:=n5_;clear n0_ n1_ n2_ n3_ n4_ n5_;(try clear hb);(try clear hb2);(try clear hk);(try clear hi))|((with_reducible refine gate_callee (f:=20) rfl ?_);refine goesL_ (some 41) rfl rfl Try.func20 (by kernel_rfl) rfl #[.int .i64 t207,.int .i64 0,.int .i64 x5_1,.int .i64 t209,.bool (t211==0)] rfl zzM2 ?_;(with_reducible refine (spec_MarkBatch.calls kj11 t207 0 x5_1 t209 (t211==0) t213 t214 t215 t216 t217 t218 false _ A25.out).mono ?_);rintro e w55 ⟨v219,rfl,ho0,hb⟩;refine ⟨_,rfl,?_⟩;have n0_:=zzm (Kd.N_elder' (zzN HO_3.out) (by first|exact Kd.N_base ho0|exact Kd.S_base ho0) hb);have n1_:=zzm (Kd.N_elder' (zzN HO_205005.out) (by first|exact Kd.N_base ho0|exact Kd.S_base ho0) hb);have n2_:=zzm (Kd.N_lower (Kd.N_mono (ok':=fun k_=>(w.heap.size≤k_)∧some k_≠(u3:Value).ownBlock∧some k_≠(.slice Ao15 t200.length co15:Value).ownBlock∧k_≠gb204∧k_≠g) ho0 (fun k_ hk_=>⟨(Nat.le_trans (keep_size (w:=w) (g:=g) (row:=none) (by repeat (first|(with_reducible first|exact HK.out|apply KeepBut.set_|apply keep_drewN|apply keep_drew|apply keep_alloc|refine keep_far ?_ GW204.out _)|exact HK.out))) hk_),(Kd.fresh' (Kd.N_lt (zzN HO_3.out)) k_ hk_),(Kd.fresh' (Kd.N_lt (zzN HO_205005.out)) k_ hk_),(Kd.freshB (g:=gb204) (o:=.cells #[.bool false,.bool false,.int .i64 t198,.int .i64 0,.int .i64 0,.slice Ao15 t200.length co15] 27 (0,0)) (zzE BK204.out) k_ hk_),(IsS94.fresh (by repeat (first|(with_reducible first|exact HI0.out|apply IsS94.alloc|apply IsS94.drewN|apply IsS94.drew|apply IsS94.set_1|refine IsS94.far ?_ NB0_204.out _)|exact HI0.out)) k_ hk_)⟩)) (keep_size (w:=w) (g:=g) (row:=none) (by repeat (first|(with_reducible first|exact HK.out|apply KeepBut.set_|apply keep_drewN|apply keep_drew|apply keep_alloc|refine keep_far ?_ GW204.out _)|exact HK.out))));have n3_:=zzm (zzh (g:=gb204) (o:=.cells #[.bool false,.bool false,.int .i64 t198,.int .i64 0,.int .i64 0,.slice Ao15 t200.length co15] 27 (0,0)) (zzE BK204.out) hb);have n4_:=zzm (IsS94.below (by repeat (first|(with_reducible first|exact HI0.out|apply IsS94.alloc|apply IsS94.drewN|apply IsS94.drew|apply IsS94.set_1|refine IsS94.far ?_ NB0_204.out _)|exact HI0.out)) hb);have n5_:=zzm (KeepBut.trans (by repeat (first|(with_reducible first|exact HK.out|apply KeepBut.set_|apply keep_drewN|apply keep_drew|apply keep_alloc|refine keep_far ?_ GW204.out _)|exact HK.out)) (KeepBut.of_below hb g none) (.inl rfl));have n6_:=zzm (zzp (by repeat (first|(with_reducible first|exact HB.out|apply zza|apply zzb|apply zzc|refine zzd ?_ (IsS94.ge HI0.out)|refine zzd ?_ GE204.out)|exact HB.out)) hb);clear HO_3 HO_205005 BK204 HI0 HK HB;have HO_3:=n0_;have HO_205005:=n1_;have HO220:=n2_;have BK204:=n3_;have HI0:=n4_;have HK:=n5_;have HB:=n6_;clear n0_ n1_ n2_ n3_ n4_ n5_ n6_;(try clear hb);(try clear hb2);(try clear hk);(try clear hi);(try clear ho0))|((with_reducible refine gate_dst (N:=8) rfl ?_);refine box_event ?hg (N:=8) ?hd (cs:=#[.bool false,.bool false,.int .i64 0,.int .i64 0,.int .i64 0,.slice none 0 0]) (t:=27) ?hr ?_;(case hd=>rfl);(case hg=>rfl);(case hr=>first|(go_simp;done)|(go_simp;rfl));intro gb222 hg w56 hbox hb;have n0_:=zzm (Kd.N_below (Kd.N_elderB (zzN HO_3.out) gb222 (Nat.le_of_eq hg.symm)) hb);have n1_:=zzm (Kd.N_below (Kd.N_elderB (zzN HO_205005.out) gb222 (Nat.le_of_eq hg.symm)) hb);have n2_:=zzm (Kd.N_below (Kd.N_elderB (zzN HO220.out) gb222 (Nat.le_of_eq hg.symm)) hb);have n3_:=zzm (zzh (g:=gb204) (o:=.cells #[.bool false,.bool false,.int .i64 t198,.int .i64 0,.int .i64 0,.slice Ao15 t200.length co15] 27 (0,0)) (zzE BK204.out) hb);have n4_:=zzm (IsS94.below (by repeat (first|(with_reducible first|exact HI0.out|apply IsS94.alloc|apply IsS94.drewN|apply IsS94.drew|apply IsS94.set_1|refine IsS94.far ?_ NB0_204.out _)|exact HI0.out)) hb);have n5_:=zzm (KeepBut.trans (by repeat (first|(with_reducible first|exact HK.out|apply KeepBut.set_|apply keep_drewN|apply keep_drew|apply keep_alloc|refine keep_far ?_ GW204.out _)|exact HK.out)) (KeepBut.of_below hb g none) (.inl rfl));have n6_:=zzm (zzp (by repeat (first|(with_reducible first|exact HB.out|apply zza|apply zzb|apply zzc|refine zzd ?_ (IsS94.ge HI0.out)|refine zzd ?_ GE204.out)|exact HB.out)) hb);have n7_:=zzm (hbox);have n8_:=zzm ((by rw [hg];exact (keep_size (w:=w) (g:=g) (row:=none) (by repeat (first|(with_reducible first|exact HK.out|apply KeepBut.set_|apply keep_drewN|apply keep_drew|apply keep_alloc|refine keep_far ?_ GW204.out _)|exact HK.out))):w.heap.size≤gb222));have n9_:=zzm ((Nat.le_trans HW0.out (by rw [hg];exact (keep_size (w:=w) (g:=g) (row:=none) (by repeat (first|(with_reducible first|exact HK.out|apply KeepBut.set_|apply keep_drewN|apply keep_drew|apply keep_alloc|refine keep_far ?_ GW204.out _)|exact HK.out))):w.heap.size≤gb222):w0.heap.size≤gb222));have n10_:=zzm ((by rw [hg];exact Nat.ne_of_lt (blk_lt (g:=gb204) (o:=.cells #[.bool false,.bool false,.int .i64 t198,.int .i64 0,.int .i64 0,.slice Ao15 t200.length co15] 27 (0,0)) (zzE BK204.out)):gb204≠gb222));have n11_:=zzm ((by rw [hg];exact Nat.ne_of_gt (blk_lt (g:=gb204) (o:=.cells #[.bool false,.bool false,.int .i64 t198,.int .i64 0,.int .i64 0,.slice Ao15 t200.length co15] 27 (0,0)) (zzE BK204.out)):gb222≠gb204));have n12_:=zzm ((by rw [hg];exact Nat.ne_of_lt (IsS94.lt (show IsS94 w0 _ g s0_0 t212 from by repeat (first|(with_reducible first|exact HI0.out|apply IsS94.alloc|apply IsS94.drewN|apply IsS94.drew|apply IsS94.set_1|refine IsS94.far ?_ NB0_204.out _)|exact HI0.out))):g≠gb222));have n13_:=zzm ((by rw [hg];exact Nat.ne_of_gt (IsS94.lt (show IsS94 w0 _ g s0_0 t212 from by repeat (first|(with_reducible first|exact HI0.out|apply IsS94.alloc|apply IsS94.drewN|apply IsS94.drew|apply IsS94.set_1|refine IsS94.far ?_ NB0_204.out _)|exact HI0.out))):gb222≠g));clear HO_3 HO_205005 HO220 BK204 HI0 HK HB;have HO_3:=n0_;have HO_205005:=n1_;have HO220:=n2_;have BK204:=n3_;have HI0:=n4_;have HK:=n5_;have HB:=n6_;have BK222:=n7_;have GW222:=n8_;have GE222:=n9_;have NB204_222:=n10_;have NB222_204:=n11_;have NB0_222:=n12_;have NB222_0:=n13_;clear n0_ n1_ n2_ n3_ n4_ n5_ n6_ n7_ n8_ n9_ n10_ n11_ n12_ n13_ hb hbox hg;have hnb57:=NB222_204.out;have hnc57:=NB204_222.out;have hnb58:=NB222_0.out;have hnc58:=NB0_222.out;obtain ⟨hcz59_0,hcz59_1,hcz59_2,hcz59_3,hcz59_4,hcz59_5,hfz59_0,hfz59_1,hfz59_2,hfz59_3,hfz59_4,hfz59_5⟩:=zzc6 BK222.out;obtain ⟨Ao60,co60,eo60⟩:=Kd.N_slice HO220.out;subst eo60)|((with_reducible refine gate_store (t:=27) (p:=8) rfl ?_);refine store_event (t:=27) (p:=8) (v:=?vo_w61) (w1:=((((((w56.setCell ⟨gb222,0,none⟩ (.bool t213)).setCell ⟨gb222,1,none⟩ (.bool t214)).setCell ⟨gb222,2,none⟩ (.int .i64 t215)).setCell ⟨gb222,3,none⟩ (.int .i64 t216)).setCell ⟨gb222,4,none⟩ (.int .i64 t217)).setCell ⟨gb222,5,none⟩ (.slice Ao60 t218.length co60))) ?hg ?ho ?hn ?hr ?_;(case ho=>rfl);(case hg=>rfl);(case hn=>rfl);(case hr=>first|(go_simp;done)|(go_simp;rfl));intro w61 hw;have n0_:Aside0 (Kd.N k27 27 w61 w.heap.size (fun k_=>(w.heap.size≤k_)∧some k_≠(.slice Ao15 t200.length co15:Value).ownBlock∧some k_≠(.slice Ao60 t218.length co60:Value).ownBlock∧k_≠gb204∧k_≠g∧k_≠gb222) u3 x3_1):=⟨(by rw [hw];exact (zzN (Kd.N_mono (Kd.N_far (p:=⟨gb222,5,none⟩) (Kd.N_far (p:=⟨gb222,4,none⟩) (Kd.N_far (p:=⟨gb222,3,none⟩) (Kd.N_far (p:=⟨gb222,2,none⟩) (Kd.N_far (p:=⟨gb222,1,none⟩) (Kd.N_far (p:=⟨gb222,0,none⟩) (Kd.N_mono HO_3.out (fun k_ hk=>(⟨hk,hk.2⟩:_∧k_≠gb222))) (fun _ hk=>hk.2) (.bool t213)) (fun _ hk=>hk.2) (.bool t214)) (fun _ hk=>hk.2) (.int .i64 t215)) (fun _ hk=>hk.2) (.int .i64 t216)) (fun _ hk=>hk.2) (.int .i64 t217)) (fun _ hk=>hk.2) (.slice Ao60 t218.length co60)) (fun _ hk=>⟨hk.1.1.1.1,⟨hk.1.1.1.2.1,⟨hk.1.1.2,⟨hk.1.1.1.2.2.1,⟨hk.1.1.1.2.2.2,hk.1.2⟩⟩⟩⟩⟩))))⟩;have n1_:Aside0 (Kd.N k34 34 w61 w.heap.size (fun k_=>(w.heap.size≤k_)∧some k_≠(u3:Value).ownBlock∧some k_≠(.slice Ao60 t218.length co60:Value).ownBlock∧k_≠gb204∧k_≠g∧k_≠gb222) (.slice Ao15 t200.length co15) t200):=⟨(by rw [hw];exact (zzN (Kd.N_mono (Kd.N_far (p:=⟨gb222,5,none⟩) (Kd.N_far (p:=⟨gb222,4,none⟩) (Kd.N_far (p:=⟨gb222,3,none⟩) (Kd.N_far (p:=⟨gb222,2,none⟩) (Kd.N_far (p:=⟨gb222,1,none⟩) (Kd.N_far (p:=⟨gb222,0,none⟩) (Kd.N_mono HO_205005.out (fun k_ hk=>(⟨hk,hk.2⟩:_∧k_≠gb222))) (fun _ hk=>hk.2) (.bool t213)) (fun _ hk=>hk.2) (.bool t214)) (fun _ hk=>hk.2) (.int .i64 t215)) (fun _ hk=>hk.2) (.int .i64 t216)) (fun _ hk=>hk.2) (.int .i64 t217)) (fun _ hk=>hk.2) (.slice Ao60 t218.length co60)) (fun _ hk=>⟨hk.1.1.1.1,⟨hk.1.1.1.2.1,⟨hk.1.1.2,⟨hk.1.1.1.2.2.1,⟨hk.1.1.1.2.2.2,hk.1.2⟩⟩⟩⟩⟩))))⟩;have n2_:Aside0 (Kd.N k34 34 w61 w.heap.size (fun k_=>(w.heap.size≤k_)∧some k_≠(u3:Value).ownBlock∧some k_≠(.slice Ao15 t200.length co15:Value).ownBlock∧k_≠gb204∧k_≠g∧k_≠gb222) (.slice Ao60 t218.length co60) t218):=⟨(by rw [hw];exact (zzN (Kd.N_mono (Kd.N_far (p:=⟨gb222,5,none⟩) (Kd.N_far (p:=⟨gb222,4,none⟩) (Kd.N_far (p:=⟨gb222,3,none⟩) (Kd.N_far (p:=⟨gb222,2,none⟩) (Kd.N_far (p:=⟨gb222,1,none⟩) (Kd.N_far (p:=⟨gb222,0,none⟩) (Kd.N_mono HO220.out (fun k_ hk=>(⟨hk,hk.2⟩:_∧k_≠gb222))) (fun _ hk=>hk.2) (.bool t213)) (fun _ hk=>hk.2) (.bool t214)) (fun _ hk=>hk.2) (.int .i64 t215)) (fun _ hk=>hk.2) (.int .i64 t216)) (fun _ hk=>hk.2) (.int .i64 t217)) (fun _ hk=>hk.2) (.slice Ao60 t218.length co60)) (fun _ hk=>⟨hk.1.1.1,⟨hk.1.1.2.1,⟨hk.1.1.2.2.1,⟨hk.1.1.2.2.2.1,⟨hk.1.1.2.2.2.2,hk.1.2⟩⟩⟩⟩⟩))))⟩;have n3_:Aside0 (w61.heap[gb204]? = some (.cells #[.bool false,.bool false,.int .i64 t198,.int .i64 0,.int .i64 0,.slice Ao15 t200.length co15] 27 (0,0))):=⟨(by rw [hw];exact (by (with_reducible repeat (first|apply zzf|apply zzg|apply zze));refine zzj ?_ NB204_222.out _;(with_reducible repeat (first|apply zzf|apply zzg|apply zze));refine zzj ?_ NB204_222.out _;(with_reducible repeat (first|apply zzf|apply zzg|apply zze));refine zzj ?_ NB204_222.out _;(with_reducible repeat (first|apply zzf|apply zzg|apply zze));refine zzj ?_ NB204_222.out _;(with_reducible repeat (first|apply zzf|apply zzg|apply zze));refine zzj ?_ NB204_222.out _;(with_reducible repeat (first|apply zzf|apply zzg|apply zze));refine zzj ?_ NB204_222.out _;(with_reducible repeat (first|apply zzf|apply zzg|apply zze));exact BK204.out))⟩;have n4_:Aside0 (w61.heap[gb222]? = some (.cells #[.bool t213,.bool t214,.int .i64 t215,.int .i64 t216,.int .i64 t217,.slice Ao60 t218.length co60] 27 (0,0))):=⟨(by rw [hw];exact (by (with_reducible repeat (first|apply zzf|apply zzg|apply zze));refine zzi (cs:=#[.bool t213,.bool t214,.int .i64 t215,.int .i64 t216,.int .i64 t217,.slice none 0 0]) ?_ 5 _ rfl;(with_reducible repeat (first|apply zzf|apply zzg|apply zze));refine zzi (cs:=#[.bool t213,.bool t214,.int .i64 t215,.int .i64 t216,.int .i64 0,.slice none 0 0]) ?_ 4 _ rfl;(with_reducible repeat (first|apply zzf|apply zzg|apply zze));refine zzi (cs:=#[.bool t213,.bool t214,.int .i64 t215,.int .i64 0,.int .i64 0,.slice none 0 0]) ?_ 3 _ rfl;(with_reducible repeat (first|apply zzf|apply zzg|apply zze));refine zzi (cs:=#[.bool t213,.bool t214,.int .i64 0,.int .i64 0,.int .i64 0,.slice none 0 0]) ?_ 2 _ rfl;(with_reducible repeat (first|apply zzf|apply zzg|apply zze));refine zzi (cs:=#[.bool t213,.bool false,.int .i64 0,.int .i64 0,.int .i64 0,.slice none 0 0]) ?_ 1 _ rfl;(with_reducible repeat (first|apply zzf|apply zzg|apply zze));refine zzi (cs:=#[.bool false,.bool false,.int .i64 0,.int .i64 0,.int .i64 0,.slice none 0 0]) ?_ 0 _ rfl;(with_reducible repeat (first|apply zzf|apply zzg|apply zze));exact BK222.out))⟩;have n5_:Aside0 (IsS94 w0 w61 g s0_0 t212):=⟨(by rw [hw];exact (by repeat (first|(with_reducible first|exact HI0.out|apply IsS94.alloc|apply IsS94.drewN|apply IsS94.drew|apply IsS94.set_1|refine IsS94.far ?_ NB0_204.out _|refine IsS94.far ?_ NB0_222.out _)|exact HI0.out)))⟩;have n6_:Aside0 (KeepBut w w61 g none):=⟨(by rw [hw];exact (by repeat (first|(with_reducible first|exact HK.out|apply KeepBut.set_|apply keep_drewN|apply keep_drew|apply keep_alloc|refine keep_far ?_ GW204.out _|refine keep_far ?_ GW222.out _)|exact HK.out)))⟩;have n7_:Aside0 (Below w0.heap.size w0 w61):=⟨(by rw [hw];exact (by repeat (first|(with_reducible first|exact HB.out|apply zza|apply zzb|apply zzc|refine zzd ?_ (IsS94.ge HI0.out)|refine zzd ?_ GE204.out|refine zzd ?_ GE222.out)|exact HB.out)))⟩;clear hw HO_3 HO_205005 HO220 BK204 BK222 HI0 HK HB;have HO_3:=n0_;have HO_205005:=n1_;have HO220:=n2_;have BK204:=n3_;have BK222:=n4_;have HI0:=n5_;have HK:=n6_;have HB:=n7_;clear n0_ n1_ n2_ n3_ n4_ n5_ n6_ n7_;have hnb62:=NB204_0.out;have hnc62:=NB0_204.out;obtain ⟨hcz63_0,hcz63_1,hcz63_2,hcz63_3,hcz63_4,hcz63_5,hfz63_0,hfz63_1,hfz63_2,hfz63_3,hfz63_4,hfz63_5⟩:=zzc6 BK204.out)|((with_reducible refine gate_builtin (b:=.append) (xs:=#[.tmp 49,.tmp 51]) rfl ?_);at_builtin;refine Kd.N_append k27 w.heap.size rfl (.tmp 49) (.tmp 51) 39 27 (.agg #[(.bool false),(.bool false),(.int .i64 0),(.int .i64 0),(.int .i64 0),(.slice none 0 0)]) 56 rfl Try.underlying39 info27 rfl (by decide) (by omega) u3 x3_1 (⟨false,false,t198,0,0,t200⟩:S27) [.bool false,.bool false,.int .i64 t198,.int .i64 0,.int .i64 0,.slice Ao15 t200.length co15] (fun k_=>(w.heap.size≤k_)∧some k_≠(.slice Ao60 t218.length co60:Value).ownBlock∧k_≠gb204∧k_≠gb222∧k_≠g) (fun k_=>((fun k_=>(w.heap.size≤k_)∧some k_≠(.slice Ao60 t218.length co60:Value).ownBlock∧k_≠gb204∧k_≠gb222∧k_≠g)) k_∧some k_≠(u3:Value).ownBlock) rfl rfl ?aP (fun _ hk=>hk) ?aF ?aO (Below.refl _ _) ?aS ?aL ?_;(case aP=>exact (k27_mkF _ _ (⟨false,false,t198,0,0,t200⟩:S27) (Kd.N_reads' (Kd.N_mono (ok':=(fun k_=>((fun k_=>(w.heap.size≤k_)∧some k_≠(.slice Ao60 t218.length co60:Value).ownBlock∧k_≠gb204∧k_≠gb222∧k_≠g)) k_∧some k_≠(u3:Value).ownBlock)) (HO_205005.out) (fun k_ hk=>⟨⟨hk.1,⟨hk.2.2.1,⟨hk.2.2.2.1,⟨hk.2.2.2.2.2,hk.2.2.2.2.1⟩⟩⟩⟩,hk.2.1⟩))).2.1 (Kd.N_F (Kd.N_mono (ok':=(fun k_=>((fun k_=>(w.heap.size≤k_)∧some k_≠(.slice Ao60 t218.length co60:Value).ownBlock∧k_≠gb204∧k_≠gb222∧k_≠g)) k_∧some k_≠(u3:Value).ownBlock)) (HO_205005.out) (fun k_ hk=>⟨⟨hk.1,⟨hk.2.2.1,⟨hk.2.2.2.1,⟨hk.2.2.2.2.2,hk.2.2.2.2.1⟩⟩⟩⟩,hk.2.1⟩)))));(case aF=>exact (fun k_ hk=>⟨(Nat.le_trans (keep_size (w:=w) (g:=g) (row:=none) (by repeat (first|(with_reducible first|exact HK.out|apply KeepBut.set_|apply keep_drewN|apply keep_drew|apply keep_alloc|refine keep_far ?_ GW204.out _|refine keep_far ?_ GW222.out _)|exact HK.out))) hk),Kd.fresh' (Kd.N_lt (zzN HO220.out)) k_ hk,Kd.freshB (g:=gb204) (o:=.cells #[.bool false,.bool false,.int .i64 t198,.int .i64 0,.int .i64 0,.slice Ao15 t200.length co15] 27 (0,0)) (zzE BK204.out) k_ hk,Kd.freshB (g:=gb222) (o:=.cells #[.bool t213,.bool t214,.int .i64 t215,.int .i64 t216,.int .i64 t217,.slice Ao60 t218.length co60] 27 (0,0)) (zzE BK222.out) k_ hk,IsS94.fresh (by repeat (first|(with_reducible first|exact HI0.out|apply IsS94.alloc|apply IsS94.drewN|apply IsS94.drew|apply IsS94.set_1|refine IsS94.far ?_ NB0_204.out _|refine IsS94.far ?_ NB0_222.out _)|exact HI0.out)) k_ hk⟩));(case aO=>exact (zzN (Kd.N_mono HO_3.out (fun _ hk=>⟨hk.1,⟨hk.2.2.1,⟨hk.2.2.2.1,⟨hk.2.2.2.2.2,hk.2.2.2.2.1⟩⟩⟩⟩))));(case aS=>exact (keep_size (w:=w) (g:=g) (row:=none) (by repeat (first|(with_reducible first|exact HK.out|apply KeepBut.set_|apply keep_drewN|apply keep_drew|apply keep_alloc|refine keep_far ?_ GW204.out _|refine keep_far ?_ GW222.out _)|exact HK.out))));(case aL=>have:=LMc48.out;omega);intro v228 w64 ho hb hg hat;rw [← Ny227.out] at ho;have nq_:=zzm (Kd.N_afterv (ok:=fun k_=>(w.heap.size≤k_)) (by (with_reducible repeat (first|apply Kd.N_alloc|apply Kd.N_drewN|apply Kd.N_drew));exact Kd.N_mono HO_205005.out (fun k_ hk=>by (try simp only [and_assoc] at hk);(try simp only [and_assoc]);repeat' (first|exact hk.1|exact hk.2.1|exact hk.2.2.1|exact hk.2.2.2.1|exact hk.2.2.2.2.1|exact hk.2.2.2.2.2.1|exact hk.2.2.2.2.2.2|exact hk.2.2.2.2.2|exact hk.2.2.2.2|exact hk.2.2.2|exact hk.2.2|exact hk.2|exact hk|apply And.intro))) hg hat);have n0_:=zzm (blk_grown (g:=gb204) (o:=.cells #[.bool false,.bool false,.int .i64 t198,.int .i64 0,.int .i64 0,.slice Ao15 t200.length co15] 27 (0,0)) (zzE BK204.out) hg (Kd.N_away HO_3.out (fun _ hk=>hk.2.2.2.1)));have n1_:=zzm (IsS94.grown (by repeat (first|(with_reducible first|exact HI0.out|apply IsS94.alloc|apply IsS94.drewN|apply IsS94.drew|apply IsS94.set_1|refine IsS94.far ?_ NB0_204.out _|refine IsS94.far ?_ NB0_222.out _)|exact HI0.out)) hg (IsS94.own_neN HI0.out HO_3.out (by decide)));have n2_:=zzm (Kd.N_afterv (ok:=(fun k_=>(w.heap.size≤k_)∧some k_≠(.slice Ao15 t200.length co15:Value).ownBlock∧k_≠gb204∧k_≠g∧k_≠gb222)) (zzN (Kd.N_mono HO220.out (fun _ hk=>⟨⟨hk.1,⟨hk.2.2.1,⟨hk.2.2.2.1,⟨hk.2.2.2.2.1,hk.2.2.2.2.2⟩⟩⟩⟩,hk.2.1⟩))) hg hat);have n3_:=zzm (blk_grown (g:=gb222) (o:=.cells #[.bool t213,.bool t214,.int .i64 t215,.int .i64 t216,.int .i64 t217,.slice Ao60 t218.length co60] 27 (0,0)) (zzE BK222.out) hg (Kd.N_away HO_3.out (fun _ hk=>hk.2.2.2.2.2)));have n4_:=zzm (below_weaken (by repeat (first|(with_reducible first|exact HB.out|apply zza|apply zzb|apply zzc|refine zzd ?_ (IsS94.ge HI0.out)|refine zzd ?_ GE204.out|refine zzd ?_ GE222.out)|exact HB.out)) HL.out hb);have n5_:=zzm (KeepBut.trans (by repeat (first|(with_reducible first|exact HK.out|apply KeepBut.set_|apply keep_drewN|apply keep_drew|apply keep_alloc|refine keep_far ?_ GW204.out _|refine keep_far ?_ GW222.out _)|exact HK.out)) (KeepBut.of_grown hg g) (Kd.N_base2 HO_3.out));have n6_:=zzm (ho);clear BK204 HI0 HO220 BK222 HB HK HO_3 HO_205005;have HO_205005:=nq_;clear nq_;have BK204:=n0_;have HI0:=n1_;have HO220:=n2_;have BK222:=n3_;have HB:=n4_;have HK:=n5_;have HO229:=n6_;clear n0_ n1_ n2_ n3_ n4_ n5_ n6_ ho hb hg hat;obtain ⟨hcz65_0,hcz65_1,hcz65_2,hcz65_3,hcz65_4,hcz65_5,hfz65_0,hfz65_1,hfz65_2,hfz65_3,hfz65_4,hfz65_5⟩:=zzc6 BK204.out;have p230 : 0≤((ji49):Int):=zzt;have q230:(ji49) < (t200.length:Int):=zzt;obtain ⟨ad230,A230_3,c230_3,A230_5,c230_5,e230,hx230_0,hx230_1,hx230_2,hx230_3,hx230_4,hx230_5,hl230_3,hi230_3,hl230_5,hi230_5⟩:=at_T34 (Kd.N_reads' HO_205005.out).2.2 (ji49) p230 q230;cases e230;have HR230_3:=zzm hi230_3;have HC230_3:=zzm hl230_3;clear hi230_3 hl230_3;have HR230_5:=zzm hi230_5;have HC230_5:=zzm hl230_5;clear hi230_5 hl230_5;replace p230:=eq_true p230;replace q230:=eq_true q230));go_roundg kj11
           case measure=>have:=HK1.out;have:=HJ11.out;omega
           case rel=>exact ⟨(y227),(wrap64 (((rd_T34 t200 (ji49)).f0)+1)),(wrap64 (x6_1+1)),(t212),(by first|rfl|(simp;done)|(simp only [← hji49] <;> (first|rfl|simp))|(simp [*];done)),(by first|rfl|(simp;done)|(simp [*];done)),H',⟨by have:=HK1.out;have:=HJ11.out;omega⟩,⟨by (with_reducible repeat (first|apply Kd.N_alloc|apply Kd.N_drewN|apply Kd.N_drew));exact Kd.N_mono HO229.out (fun _ hk=>⟨hk.1,hk.2.2.2.2⟩)⟩,⟨by repeat (first|(with_reducible first|exact HI0.out|apply IsS94.alloc|apply IsS94.drewN|apply IsS94.drew|apply IsS94.set_1|refine IsS94.far ?_ NB0_204.out _|refine IsS94.far ?_ NB0_222.out _)|exact HI0.out)⟩,⟨by repeat (first|(with_reducible first|exact HK.out|apply KeepBut.set_|apply keep_drewN|apply keep_drew|apply keep_alloc|refine keep_far ?_ GW204.out _|refine keep_far ?_ GW222.out _)|exact HK.out)⟩,⟨by repeat (first|(with_reducible first|exact HB.out|apply zza|apply zzb|apply zzc|refine zzd ?_ (IsS94.ge HI0.out)|refine zzd ?_ GE204.out|refine zzd ?_ GE222.out)|exact HB.out)⟩⟩
          ·
           rw [if_neg c51] at H;exact absurd H (by simp)
         ·
          rw [if_neg c50] at H;exact absurd H (by simp)
        ·
         rw [if_neg c48] at H;exact absurd H (by simp)
      ·
       replace c21:=Bool.eq_false_iff.mpr c21;subst c21;have H1:(if t205=2 then (if x3_1.length < 2513169434916 then (if 0≤(wrap64 ((t200.length:Int) - 1)) then (if (wrap64 ((t200.length:Int) - 1)) < (t200.length:Int) then (spec_l92Decided.l0 kj11 (x3_1 ++ [(⟨false,false,255,0,0,t200⟩:S27)]) (wrap64 (2+t191)) (wrap64 (((rd_T34 t200 (wrap64 ((t200.length:Int) - 1))).f0)+1)) (wrap64 (x6_1+1)) s0_0 t206) else (none)) else (none)) else (none)) else (if x3_1.length < 2513169434916 then (if 0≤(wrap64 ((t200.length:Int) - 1)) then (if (wrap64 ((t200.length:Int) - 1)) < (t200.length:Int) then (spec_l92Decided.l0 kj11 (x3_1 ++ [(⟨false,false,t198,0,0,t200⟩:S27)]) (wrap64 (2+t191)) (wrap64 (((rd_T34 t200 (wrap64 ((t200.length:Int) - 1))).f0)+1)) (wrap64 (x6_1+1)) s0_0 t206) else (none)) else (none)) else (none)))=some (r1,r2):=by rw [if_neg (show ¬ (false=true) by decide)] at H;exact H
       clear H;have H:=H1;clear H1;by_cases c66:t205=2
       ·
        rw [if_pos c66] at H;have c66b0:(t205==2)=true:=beq_iff_eq.mpr c66;have c66b1:(t205 != 2)=false:=bne_eq_false_iff_eq.mpr c66;clear c66;by_cases c67:x3_1.length < 2513169434916
        ·
         rw [if_pos c67] at H;have LMc67:=zzm c67;clear c67;obtain ⟨y231,hy231⟩:∃ y_:List (S27),y_=(x3_1 ++ [(⟨false,false,255,0,0,t200⟩:S27)]):=⟨_,rfl⟩;replace H:(if 0≤(wrap64 ((t200.length:Int) - 1)) then (if (wrap64 ((t200.length:Int) - 1)) < (t200.length:Int) then (spec_l92Decided.l0 kj11 y231 (wrap64 (2+t191)) (wrap64 (((rd_T34 t200 (wrap64 ((t200.length:Int) - 1))).f0)+1)) (wrap64 (x6_1+1)) s0_0 t206) else (none)) else (none))=some (r1,r2):=by first|(rw [hy231];with_reducible exact H)|(have H2_:=(Option.bind_some _ _).symm.trans H;rw [hy231];with_reducible exact H2_)|(have H2_:=(Option.bind_some _ _).symm.trans H;with_reducible exact H2_)|with_reducible exact H|(rw [hy231];exact H)|exact H
         have Ny231:=zzm hy231;clear hy231;obtain ⟨ji68,hji68⟩:∃ j_:Int,(wrap64 ((t200.length:Int) - 1))=j_:=⟨_,rfl⟩;replace H:(if 0≤(ji68) then (if (ji68) < (t200.length:Int) then (spec_l92Decided.l0 kj11 y231 (wrap64 (2+t191)) (wrap64 (((rd_T34 t200 (ji68)).f0)+1)) (wrap64 (x6_1+1)) s0_0 t206) else (none)) else (none))=some (r1,r2):=by first|(rw [hji68] at H;exact H)|(simp only [hji68] at H ⊢;exact H)
         have hji68w:(IntKind.i64.wrap ((t200.length:Int) - 1))=ji68:=(i64_w _).trans hji68;by_cases c69 : 0≤(ji68)
         ·
          rw [if_pos c69] at H;have c69b0:decide (0≤(ji68))=true:=decide_eq_true c69;clear c69;by_cases c70:(ji68) < (t200.length:Int)
          ·
           rw [if_pos c70] at H;have c70b0:decide ((ji68) < (t200.length:Int))=true:=decide_eq_true c70;clear c70;have H':=zzm H;clear H;have hnb71:=NB204_0.out;have hnc71:=NB0_204.out;obtain ⟨hcz72_0,hcz72_1,hcz72_2,hcz72_3,hcz72_4,hcz72_5,hfz72_0,hfz72_1,hfz72_2,hfz72_3,hfz72_4,hfz72_5⟩:=zzc6 BK204.out;go_wp2_with (first|((with_reducible refine gate_store (t:=3) (p:=48) rfl ?_);refine store_event (t:=3) (p:=48) (v:=?vo_w73) (w1:=(wc.setCell ⟨gb204,2,none⟩ (.int .i64 255))) ?hg ?ho ?hn ?hr ?_;(case ho=>rfl);(case hg=>rfl);(case hn=>rfl);(case hr=>first|(go_simp;done)|(go_simp;rfl));intro w73 hw;have n0_:Aside0 (Kd.N k27 27 w73 w.heap.size (fun k_=>(w.heap.size≤k_)∧some k_≠(.slice Ao15 t200.length co15:Value).ownBlock∧k_≠gb204∧k_≠g) u3 x3_1):=⟨(by rw [hw];exact (zzN (Kd.N_mono (Kd.N_far (p:=⟨gb204,2,none⟩) (Kd.N_mono HO_3.out (fun k_ hk=>(⟨hk,hk.2.2.1⟩:_∧k_≠gb204))) (fun _ hk=>hk.2) (.int .i64 255)) (fun _ hk=>⟨hk.1.1,⟨hk.1.2.1,⟨hk.1.2.2.1,hk.1.2.2.2⟩⟩⟩))))⟩;have n1_:Aside0 (Kd.N k34 34 w73 w.heap.size (fun k_=>(w.heap.size≤k_)∧some k_≠(u3:Value).ownBlock∧k_≠gb204∧k_≠g) (.slice Ao15 t200.length co15) t200):=⟨(by rw [hw];exact (zzN (Kd.N_mono (Kd.N_far (p:=⟨gb204,2,none⟩) (Kd.N_mono HO_205005.out (fun k_ hk=>(⟨hk,hk.2.2.1⟩:_∧k_≠gb204))) (fun _ hk=>hk.2) (.int .i64 255)) (fun _ hk=>⟨hk.1.1,⟨hk.1.2.1,⟨hk.1.2.2.1,hk.1.2.2.2⟩⟩⟩))))⟩;have n2_:Aside0 (w73.heap[gb204]? = some (.cells #[.bool false,.bool false,.int .i64 255,.int .i64 0,.int .i64 0,.slice Ao15 t200.length co15] 27 (0,0))):=⟨(by rw [hw];exact (by (with_reducible repeat (first|apply zzf|apply zzg|apply zze));refine zzi (cs:=#[.bool false,.bool false,.int .i64 t198,.int .i64 0,.int .i64 0,.slice Ao15 t200.length co15]) ?_ 2 _ rfl;(with_reducible repeat (first|apply zzf|apply zzg|apply zze));exact BK204.out))⟩;have n3_:Aside0 (IsS94 w0 w73 g s0_0 t206):=⟨(by rw [hw];exact (by repeat (first|(with_reducible first|exact HI0.out|apply IsS94.alloc|apply IsS94.drewN|apply IsS94.drew|apply IsS94.set_1|refine IsS94.far ?_ NB0_204.out _)|exact HI0.out)))⟩;have n4_:Aside0 (KeepBut w w73 g none):=⟨(by rw [hw];exact (by repeat (first|(with_reducible first|exact HK.out|apply KeepBut.set_|apply keep_drewN|apply keep_drew|apply keep_alloc|refine keep_far ?_ GW204.out _)|exact HK.out)))⟩;have n5_:Aside0 (Below w0.heap.size w0 w73):=⟨(by rw [hw];exact (by repeat (first|(with_reducible first|exact HB.out|apply zza|apply zzb|apply zzc|refine zzd ?_ (IsS94.ge HI0.out)|refine zzd ?_ GE204.out)|exact HB.out)))⟩;clear hw HO_3 HO_205005 BK204 HI0 HK HB;have HO_3:=n0_;have HO_205005:=n1_;have BK204:=n2_;have HI0:=n3_;have HK:=n4_;have HB:=n5_;clear n0_ n1_ n2_ n3_ n4_ n5_;obtain ⟨hcz74_0,hcz74_1,hcz74_2,hcz74_3,hcz74_4,hcz74_5,hfz74_0,hfz74_1,hfz74_2,hfz74_3,hfz74_4,hfz74_5⟩:=zzc6 BK204.out)|((with_reducible refine gate_builtin (b:=.append) (xs:=#[.tmp 49,.tmp 51]) rfl ?_);at_builtin;refine Kd.N_append k27 w.heap.size rfl (.tmp 49) (.tmp 51) 39 27 (.agg #[(.bool false),(.bool false),(.int .i64 0),(.int .i64 0),(.int .i64 0),(.slice none 0 0)]) 56 rfl Try.underlying39 info27 rfl (by decide) (by omega) u3 x3_1 (⟨false,false,255,0,0,t200⟩:S27) [.bool false,.bool false,.int .i64 255,.int .i64 0,.int .i64 0,.slice Ao15 t200.length co15] (fun k_=>(w.heap.size≤k_)∧k_≠gb204∧k_≠g) (fun k_=>((fun k_=>(w.heap.size≤k_)∧k_≠gb204∧k_≠g)) k_∧some k_≠(u3:Value).ownBlock) rfl rfl ?aP (fun _ hk=>hk) ?aF ?aO (Below.refl _ _) ?aS ?aL ?_;(case aP=>exact (k27_mkF _ _ (⟨false,false,255,0,0,t200⟩:S27) (Kd.N_reads' (Kd.N_mono (ok':=(fun k_=>((fun k_=>(w.heap.size≤k_)∧k_≠gb204∧k_≠g)) k_∧some k_≠(u3:Value).ownBlock)) (HO_205005.out) (fun k_ hk=>⟨⟨hk.1,⟨hk.2.2.1,hk.2.2.2⟩⟩,hk.2.1⟩))).2.1 (Kd.N_F (Kd.N_mono (ok':=(fun k_=>((fun k_=>(w.heap.size≤k_)∧k_≠gb204∧k_≠g)) k_∧some k_≠(u3:Value).ownBlock)) (HO_205005.out) (fun k_ hk=>⟨⟨hk.1,⟨hk.2.2.1,hk.2.2.2⟩⟩,hk.2.1⟩)))));(case aF=>exact (fun k_ hk=>⟨(Nat.le_trans (keep_size (w:=w) (g:=g) (row:=none) (by repeat (first|(with_reducible first|exact HK.out|apply KeepBut.set_|apply keep_drewN|apply keep_drew|apply keep_alloc|refine keep_far ?_ GW204.out _)|exact HK.out))) hk),Kd.freshB (g:=gb204) (o:=.cells #[.bool false,.bool false,.int .i64 255,.int .i64 0,.int .i64 0,.slice Ao15 t200.length co15] 27 (0,0)) (zzE BK204.out) k_ hk,IsS94.fresh (by repeat (first|(with_reducible first|exact HI0.out|apply IsS94.alloc|apply IsS94.drewN|apply IsS94.drew|apply IsS94.set_1|refine IsS94.far ?_ NB0_204.out _)|exact HI0.out)) k_ hk⟩));(case aO=>exact (zzN (Kd.N_mono HO_3.out (fun _ hk=>⟨hk.1,⟨hk.2.2.1,hk.2.2.2⟩⟩))));(case aS=>exact (keep_size (w:=w) (g:=g) (row:=none) (by repeat (first|(with_reducible first|exact HK.out|apply KeepBut.set_|apply keep_drewN|apply keep_drew|apply keep_alloc|refine keep_far ?_ GW204.out _)|exact HK.out))));(case aL=>have:=LMc67.out;omega);intro v232 w75 ho hb hg hat;rw [← Ny231.out] at ho;have nq_:=zzm (Kd.N_afterv (ok:=fun k_=>(w.heap.size≤k_)) (by (with_reducible repeat (first|apply Kd.N_alloc|apply Kd.N_drewN|apply Kd.N_drew));exact Kd.N_mono HO_205005.out (fun k_ hk=>by (try simp only [and_assoc] at hk);(try simp only [and_assoc]);repeat' (first|exact hk.1|exact hk.2.1|exact hk.2.2.1|exact hk.2.2.2.1|exact hk.2.2.2.2.1|exact hk.2.2.2.2.2.1|exact hk.2.2.2.2.2.2|exact hk.2.2.2.2.2|exact hk.2.2.2.2|exact hk.2.2.2|exact hk.2.2|exact hk.2|exact hk|apply And.intro))) hg hat);have n0_:=zzm (blk_grown (g:=gb204) (o:=.cells #[.bool false,.bool false,.int .i64 255,.int .i64 0,.int .i64 0,.slice Ao15 t200.length co15] 27 (0,0)) (zzE BK204.out) hg (Kd.N_away HO_3.out (fun _ hk=>hk.2.2.1)));have n1_:=zzm (IsS94.grown (by repeat (first|(with_reducible first|exact HI0.out|apply IsS94.alloc|apply IsS94.drewN|apply IsS94.drew|apply IsS94.set_1|refine IsS94.far ?_ NB0_204.out _)|exact HI0.out)) hg (IsS94.own_neN HI0.out HO_3.out (by decide)));have n2_:=zzm (below_weaken (by repeat (first|(with_reducible first|exact HB.out|apply zza|apply zzb|apply zzc|refine zzd ?_ (IsS94.ge HI0.out)|refine zzd ?_ GE204.out)|exact HB.out)) HL.out hb);have n3_:=zzm (KeepBut.trans (by repeat (first|(with_reducible first|exact HK.out|apply KeepBut.set_|apply keep_drewN|apply keep_drew|apply keep_alloc|refine keep_far ?_ GW204.out _)|exact HK.out)) (KeepBut.of_grown hg g) (Kd.N_base2 HO_3.out));have n4_:=zzm (ho);clear BK204 HI0 HB HK HO_3 HO_205005;have HO_205005:=nq_;clear nq_;have BK204:=n0_;have HI0:=n1_;have HB:=n2_;have HK:=n3_;have HO233:=n4_;clear n0_ n1_ n2_ n3_ n4_ ho hb hg hat;obtain ⟨hcz76_0,hcz76_1,hcz76_2,hcz76_3,hcz76_4,hcz76_5,hfz76_0,hfz76_1,hfz76_2,hfz76_3,hfz76_4,hfz76_5⟩:=zzc6 BK204.out;have p234 : 0≤((ji68):Int):=zzt;have q234:(ji68) < (t200.length:Int):=zzt;obtain ⟨ad234,A234_3,c234_3,A234_5,c234_5,e234,hx234_0,hx234_1,hx234_2,hx234_3,hx234_4,hx234_5,hl234_3,hi234_3,hl234_5,hi234_5⟩:=at_T34 (Kd.N_reads' HO_205005.out).2.2 (ji68) p234 q234;cases e234;have HR234_3:=zzm hi234_3;have HC234_3:=zzm hl234_3;clear hi234_3 hl234_3;have HR234_5:=zzm hi234_5;have HC234_5:=zzm hl234_5;clear hi234_5 hl234_5;replace p234:=eq_true p234;replace q234:=eq_true q234));go_roundg kj11
           case measure=>have:=HK1.out;have:=HJ11.out;omega
           case rel=>exact ⟨(y231),(wrap64 (((rd_T34 t200 (ji68)).f0)+1)),(wrap64 (x6_1+1)),(t206),(by first|rfl|(simp;done)|(simp only [← hji68] <;> (first|rfl|simp))|(simp [*];done)),(by first|rfl|(simp;done)|(simp [*];done)),H',⟨by have:=HK1.out;have:=HJ11.out;omega⟩,⟨by (with_reducible repeat (first|apply Kd.N_alloc|apply Kd.N_drewN|apply Kd.N_drew));exact Kd.N_mono HO233.out (fun _ hk=>⟨hk.1,hk.2.2⟩)⟩,⟨by repeat (first|(with_reducible first|exact HI0.out|apply IsS94.alloc|apply IsS94.drewN|apply IsS94.drew|apply IsS94.set_1|refine IsS94.far ?_ NB0_204.out _)|exact HI0.out)⟩,⟨by repeat (first|(with_reducible first|exact HK.out|apply KeepBut.set_|apply keep_drewN|apply keep_drew|apply keep_alloc|refine keep_far ?_ GW204.out _)|exact HK.out)⟩,⟨by repeat (first|(with_reducible first|exact HB.out|apply zza|apply zzb|apply zzc|refine zzd ?_ (IsS94.ge HI0.out)|refine zzd ?_ GE204.out)|exact HB.out)⟩⟩
          ·
           rw [if_neg c70] at H;exact absurd H (by simp)
         ·
          rw [if_neg c69] at H;exact absurd H (by simp)
        ·
         rw [if_neg c67] at H;exact absurd H (by simp)
       ·
        rw [if_neg c66] at H;have c66b0:(t205==2)=false:=beq_eq_false_iff_ne.mpr c66;have c66b1:(t205 != 2)=true:=bne_iff_ne.mpr c66;by_cases c77:x3_1.length < 2513169434916
        ·
         rw [if_pos c77] at H;have LMc77:=zzm c77;clear c77;obtain ⟨y235,hy235⟩:∃ y_:List (S27),y_=(x3_1 ++ [(⟨false,false,t198,0,0,t200⟩:S27)]):=⟨_,rfl⟩;replace H:(if 0≤(wrap64 ((t200.length:Int) - 1)) then (if (wrap64 ((t200.length:Int) - 1)) < (t200.length:Int) then (spec_l92Decided.l0 kj11 y235 (wrap64 (2+t191)) (wrap64 (((rd_T34 t200 (wrap64 ((t200.length:Int) - 1))).f0)+1)) (wrap64 (x6_1+1)) s0_0 t206) else (none)) else (none))=some (r1,r2):=by first|(rw [hy235];with_reducible exact H)|(have H2_:=(Option.bind_some _ _).symm.trans H;rw [hy235];with_reducible exact H2_)|(have H2_:=(Option.bind_some _ _).symm.trans H;with_reducible exact H2_)|with_reducible exact H|(rw [hy235];exact H)|exact H
         have Ny235:=zzm hy235;clear hy235;obtain ⟨ji78,hji78⟩:∃ j_:Int,(wrap64 ((t200.length:Int) - 1))=j_:=⟨_,rfl⟩;replace H:(if 0≤(ji78) then (if (ji78) < (t200.length:Int) then (spec_l92Decided.l0 kj11 y235 (wrap64 (2+t191)) (wrap64 (((rd_T34 t200 (ji78)).f0)+1)) (wrap64 (x6_1+1)) s0_0 t206) else (none)) else (none))=some (r1,r2):=by first|(rw [hji78] at H;exact H)|(simp only [hji78] at H ⊢;exact H)
         have hji78w:(IntKind.i64.wrap ((t200.length:Int) - 1))=ji78:=(i64_w _).trans hji78;by_cases c79 : 0≤(ji78)
         ·
          rw [if_pos c79] at H;have c79b0:decide (0≤(ji78))=true:=decide_eq_true c79;clear c79;by_cases c80:(ji78) < (t200.length:Int)
          ·
           rw [if_pos c80] at H;have c80b0:decide ((ji78) < (t200.length:Int))=true:=decide_eq_true c80;clear c80;have H':=zzm H;clear H;have hnb81:=NB204_0.out;have hnc81:=NB0_204.out;obtain ⟨hcz82_0,hcz82_1,hcz82_2,hcz82_3,hcz82_4,hcz82_5,hfz82_0,hfz82_1,hfz82_2,hfz82_3,hfz82_4,hfz82_5⟩:=zzc6 BK204.out;go_wp2_with (first|((with_reducible refine gate_builtin (b:=.append) (xs:=#[.tmp 49,.tmp 51]) rfl ?_);at_builtin;refine Kd.N_append k27 w.heap.size rfl (.tmp 49) (.tmp 51) 39 27 (.agg #[(.bool false),(.bool false),(.int .i64 0),(.int .i64 0),(.int .i64 0),(.slice none 0 0)]) 56 rfl Try.underlying39 info27 rfl (by decide) (by omega) u3 x3_1 (⟨false,false,t198,0,0,t200⟩:S27) [.bool false,.bool false,.int .i64 t198,.int .i64 0,.int .i64 0,.slice Ao15 t200.length co15] (fun k_=>(w.heap.size≤k_)∧k_≠gb204∧k_≠g) (fun k_=>((fun k_=>(w.heap.size≤k_)∧k_≠gb204∧k_≠g)) k_∧some k_≠(u3:Value).ownBlock) rfl rfl ?aP (fun _ hk=>hk) ?aF ?aO (Below.refl _ _) ?aS ?aL ?_;(case aP=>exact (k27_mkF _ _ (⟨false,false,t198,0,0,t200⟩:S27) (Kd.N_reads' (Kd.N_mono (ok':=(fun k_=>((fun k_=>(w.heap.size≤k_)∧k_≠gb204∧k_≠g)) k_∧some k_≠(u3:Value).ownBlock)) (HO_205005.out) (fun k_ hk=>⟨⟨hk.1,⟨hk.2.2.1,hk.2.2.2⟩⟩,hk.2.1⟩))).2.1 (Kd.N_F (Kd.N_mono (ok':=(fun k_=>((fun k_=>(w.heap.size≤k_)∧k_≠gb204∧k_≠g)) k_∧some k_≠(u3:Value).ownBlock)) (HO_205005.out) (fun k_ hk=>⟨⟨hk.1,⟨hk.2.2.1,hk.2.2.2⟩⟩,hk.2.1⟩)))));(case aF=>exact (fun k_ hk=>⟨(Nat.le_trans (keep_size (w:=w) (g:=g) (row:=none) (by repeat (first|(with_reducible first|exact HK.out|apply KeepBut.set_|apply keep_drewN|apply keep_drew|apply keep_alloc|refine keep_far ?_ GW204.out _)|exact HK.out))) hk),Kd.freshB (g:=gb204) (o:=.cells #[.bool false,.bool false,.int .i64 t198,.int .i64 0,.int .i64 0,.slice Ao15 t200.length co15] 27 (0,0)) (zzE BK204.out) k_ hk,IsS94.fresh (by repeat (first|(with_reducible first|exact HI0.out|apply IsS94.alloc|apply IsS94.drewN|apply IsS94.drew|apply IsS94.set_1|refine IsS94.far ?_ NB0_204.out _)|exact HI0.out)) k_ hk⟩));(case aO=>exact (zzN (Kd.N_mono HO_3.out (fun _ hk=>⟨hk.1,⟨hk.2.2.1,hk.2.2.2⟩⟩))));(case aS=>exact (keep_size (w:=w) (g:=g) (row:=none) (by repeat (first|(with_reducible first|exact HK.out|apply KeepBut.set_|apply keep_drewN|apply keep_drew|apply keep_alloc|refine keep_far ?_ GW204.out _)|exact HK.out))));(case aL=>have:=LMc77.out;omega);intro v236 w83 ho hb hg hat;rw [← Ny235.out] at ho;have nq_:=zzm (Kd.N_afterv (ok:=fun k_=>(w.heap.size≤k_)) (by (with_reducible repeat (first|apply Kd.N_alloc|apply Kd.N_drewN|apply Kd.N_drew));exact Kd.N_mono HO_205005.out (fun k_ hk=>by (try simp only [and_assoc] at hk);(try simp only [and_assoc]);repeat' (first|exact hk.1|exact hk.2.1|exact hk.2.2.1|exact hk.2.2.2.1|exact hk.2.2.2.2.1|exact hk.2.2.2.2.2.1|exact hk.2.2.2.2.2.2|exact hk.2.2.2.2.2|exact hk.2.2.2.2|exact hk.2.2.2|exact hk.2.2|exact hk.2|exact hk|apply And.intro))) hg hat);have n0_:=zzm (blk_grown (g:=gb204) (o:=.cells #[.bool false,.bool false,.int .i64 t198,.int .i64 0,.int .i64 0,.slice Ao15 t200.length co15] 27 (0,0)) (zzE BK204.out) hg (Kd.N_away HO_3.out (fun _ hk=>hk.2.2.1)));have n1_:=zzm (IsS94.grown (by repeat (first|(with_reducible first|exact HI0.out|apply IsS94.alloc|apply IsS94.drewN|apply IsS94.drew|apply IsS94.set_1|refine IsS94.far ?_ NB0_204.out _)|exact HI0.out)) hg (IsS94.own_neN HI0.out HO_3.out (by decide)));have n2_:=zzm (below_weaken (by repeat (first|(with_reducible first|exact HB.out|apply zza|apply zzb|apply zzc|refine zzd ?_ (IsS94.ge HI0.out)|refine zzd ?_ GE204.out)|exact HB.out)) HL.out hb);have n3_:=zzm (KeepBut.trans (by repeat (first|(with_reducible first|exact HK.out|apply KeepBut.set_|apply keep_drewN|apply keep_drew|apply keep_alloc|refine keep_far ?_ GW204.out _)|exact HK.out)) (KeepBut.of_grown hg g) (Kd.N_base2 HO_3.out));have n4_:=zzm (ho);clear BK204 HI0 HB HK HO_3 HO_205005;have HO_205005:=nq_;clear nq_;have BK204:=n0_;have HI0:=n1_;have HB:=n2_;have HK:=n3_;have HO237:=n4_;clear n0_ n1_ n2_ n3_ n4_ ho hb hg hat;obtain ⟨hcz84_0,hcz84_1,hcz84_2,hcz84_3,hcz84_4,hcz84_5,hfz84_0,hfz84_1,hfz84_2,hfz84_3,hfz84_4,hfz84_5⟩:=zzc6 BK204.out;have p238 : 0≤((ji78):Int):=zzt;have q238:(ji78) < (t200.length:Int):=zzt;obtain ⟨ad238,A238_3,c238_3,A238_5,c238_5,e238,hx238_0,hx238_1,hx238_2,hx238_3,hx238_4,hx238_5,hl238_3,hi238_3,hl238_5,hi238_5⟩:=at_T34 (Kd.N_reads' HO_205005.out).2.2 (ji78) p238 q238;cases e238;have HR238_3:=zzm hi238_3;have HC238_3:=zzm hl238_3;clear hi238_3 hl238_3;have HR238_5:=zzm hi238_5;have HC238_5:=zzm hl238_5;clear hi238_5 hl238_5;replace p238:=eq_true p238;replace q238:=eq_true q238));go_roundg kj11
           case measure=>have:=HK1.out;have:=HJ11.out;omega
           case rel=>exact ⟨(y235),(wrap64 (((rd_T34 t200 (ji78)).f0)+1)),(wrap64 (x6_1+1)),(t206),(by first|rfl|(simp;done)|(simp only [← hji78] <;> (first|rfl|simp))|(simp [*];done)),(by first|rfl|(simp;done)|(simp [*];done)),H',⟨by have:=HK1.out;have:=HJ11.out;omega⟩,⟨by (with_reducible repeat (first|apply Kd.N_alloc|apply Kd.N_drewN|apply Kd.N_drew));exact Kd.N_mono HO237.out (fun _ hk=>⟨hk.1,hk.2.2⟩)⟩,⟨by repeat (first|(with_reducible first|exact HI0.out|apply IsS94.alloc|apply IsS94.drewN|apply IsS94.drew|apply IsS94.set_1|refine IsS94.far ?_ NB0_204.out _)|exact HI0.out)⟩,⟨by repeat (first|(with_reducible first|exact HK.out|apply KeepBut.set_|apply keep_drewN|apply keep_drew|apply keep_alloc|refine keep_far ?_ GW204.out _)|exact HK.out)⟩,⟨by repeat (first|(with_reducible first|exact HB.out|apply zza|apply zzb|apply zzc|refine zzd ?_ (IsS94.ge HI0.out)|refine zzd ?_ GE204.out)|exact HB.out)⟩⟩
          ·
           rw [if_neg c80] at H;exact absurd H (by simp)
         ·
          rw [if_neg c79] at H;exact absurd H (by simp)
        ·
         rw [if_neg c77] at H;exact absurd H (by simp)
   ·
    rw [if_neg c8] at H;have c8b0:decide (x6_1 < (wrap64 (2+t191)))=false:=decide_eq_false c8;clear c8;replace H:=Option.bind_eq_some_iff.mp H;obtain ⟨⟨t195,t196⟩,A850,H⟩:=H;replace H:(if t195=0 then (if 0 < (x3_1.length:Int) then (some ((x3_1.set (0:Int).toNat (⟨(rd_T27 x3_1 0).f0,(rd_T27 x3_1 0).f1,(rd_T27 x3_1 0).f2,100,(rd_T27 x3_1 0).f4,(rd_T27 x3_1 0).f5⟩:S27)),t196)) else (none)) else (some (x3_1,t196)))=some (r1,r2):=H;have A85:=zzm A850;clear A850;by_cases c86:t195=0
    ·
     rw [if_pos c86] at H;have c86b0:(t195==0)=true:=beq_iff_eq.mpr c86;have c86b1:(t195 != 0)=false:=bne_eq_false_iff_eq.mpr c86;clear c86;by_cases c87 : 0 < (x3_1.length:Int)
     ·
      rw [if_pos c87] at H;have c87b0:decide (0 < (x3_1.length:Int))=true:=decide_eq_true c87;have c87b1:decide (0 < x3_1.length)=true:=decide_eq_true (by omega);clear c87;obtain ⟨y197,hy197⟩:∃ y_:List (S27),y_=(x3_1.set (0:Int).toNat (⟨(rd_T27 x3_1 0).f0,(rd_T27 x3_1 0).f1,(rd_T27 x3_1 0).f2,100,(rd_T27 x3_1 0).f4,(rd_T27 x3_1 0).f5⟩:S27)):=⟨_,rfl⟩;replace H:(some (y197,t196))=some (r1,r2):=by first|(rw [hy197];with_reducible exact H)|(have H2_:=(Option.bind_some _ _).symm.trans H;rw [hy197];with_reducible exact H2_)|(have H2_:=(Option.bind_some _ _).symm.trans H;with_reducible exact H2_)|with_reducible exact H|(rw [hy197];exact H)|exact H
      have Ny197:=zzm hy197;clear hy197;simp only [Option.some.injEq,Prod.mk.injEq] at H;obtain ⟨rfl,rfl⟩:=H;go_wp2_with (first|((with_reducible refine gate_callee (f:=54) rfl ?_);refine goesL_ (some 64) rfl rfl Try.func54 (by kernel_rfl) rfl #[.pointer (some ⟨g,0,none⟩),.int .i64 24] rfl zzM2 ?_;(with_reducible refine (spec_l6Rd_pick.calls k1 g s0_0 x1001_1 24 t195 t196 w0 _ ?side1 ?side2 A85.out).mono ?_);(case side1=>repeat (first|(with_reducible first|exact HI0.out|apply IsS94.alloc|apply IsS94.drewN|apply IsS94.drew|apply IsS94.set_1)|exact HI0.out));(case side2=>repeat (first|(with_reducible first|exact HB.out|apply zza|apply zzb|apply zzc|refine zzd ?_ (IsS94.ge HI0.out))|exact HB.out));rintro e w89 ⟨rfl,hi,hb,hk⟩;refine ⟨_,rfl,?_⟩;have n0_:=zzm (Kd.N_mono (Kd.N_keep (Kd.N_mono (ok:=fun k_=>(((w.heap.size≤k_))∧k_≠g)) (zzN HO_3.out) (fun k_ hk_=>(⟨hk_,hk_.2⟩:_∧k_≠g))) hk (fun _ h=>h.2)) (fun _ h=>h.1));have n1_:=zzm (KeepBut.trans (by repeat (first|(with_reducible first|exact HK.out|apply KeepBut.set_|apply keep_drewN|apply keep_drew|apply keep_alloc)|exact HK.out)) hk (.inl rfl));have n2_:=zzm (hb);have n3_:=zzm (hi);clear HO_3 HK HB HI0;have HO_3:=n0_;have HK:=n1_;have HB:=n2_;have HI0:=n3_;clear n0_ n1_ n2_ n3_;(try clear hb);(try clear hb2);(try clear hk);(try clear hi);have p88 : 0≤(0:Int):=(by omega);have q88:(0:Int) < ((x3_1.length:Int):Int):=zzt;have qi88:(0 < x3_1.length)=True:=eq_true (by omega);obtain ⟨go88,co88,eo88,gb88,gl88,cl88,HG88⟩:=Kd.N_form HO_3.out (by omega);(first|cases eo88|(injection eo88 with ea_ en_ ec_;(first|subst ea_|(injection ea_ with ea_;subst ea_));subst ec_;clear en_));have GB88:=zzm gb88;have GG88:=zzm HG88;clear gb88 gl88 HG88;obtain ⟨ce88,hcl88,hM88,hcc88,hfr88⟩:=Kd.N_elem HO_3.out z27 (0:Int) p88 q88;obtain ⟨ua88_5,uc88_5,rfl,ul88_5,ge88_5⟩:=k27_openF hM88;have hx88_0:w89.cell? ⟨go88,(0:Int).toNat * 6,none⟩=some (.bool ((rd_T27 x3_1 0).f0)):=hcc88 0 _ rfl;have hx88_1:w89.cell? ⟨go88,(0:Int).toNat * 6+1,none⟩=some (.bool ((rd_T27 x3_1 0).f1)):=hcc88 1 _ rfl;have hx88_2:w89.cell? ⟨go88,(0:Int).toNat * 6+2,none⟩=some (.int .i64 ((rd_T27 x3_1 0).f2)):=hcc88 2 _ rfl;have hx88_3:w89.cell? ⟨go88,(0:Int).toNat * 6+3,none⟩=some (.int .i64 ((rd_T27 x3_1 0).f3)):=hcc88 3 _ rfl;have hx88_4:w89.cell? ⟨go88,(0:Int).toNat * 6+4,none⟩=some (.int .i64 ((rd_T27 x3_1 0).f4)):=hcc88 4 _ rfl;have hx88_5:w89.cell? ⟨go88,(0:Int).toNat * 6+5,none⟩=some (.slice ua88_5 ((rd_T27 x3_1 0).f5).length uc88_5):=hcc88 5 _ rfl;have hf88_0:w89.frozen? ⟨go88,(0:Int).toNat * 6,none⟩=false:=hfr88 0;have hf88_1:w89.frozen? ⟨go88,(0:Int).toNat * 6+1,none⟩=false:=hfr88 1;have hf88_2:w89.frozen? ⟨go88,(0:Int).toNat * 6+2,none⟩=false:=hfr88 2;have hf88_3:w89.frozen? ⟨go88,(0:Int).toNat * 6+3,none⟩=false:=hfr88 3;have hf88_4:w89.frozen? ⟨go88,(0:Int).toNat * 6+4,none⟩=false:=hfr88 4;have hf88_5:w89.frozen? ⟨go88,(0:Int).toNat * 6+5,none⟩=false:=hfr88 5;clear hcl88 hcc88 hfr88 hM88;(try rw [show ((0:Int)).toNat=0 from rfl] at hx88_0);(try simp only [Nat.reduceMul,Nat.zero_mul,Nat.zero_add,Nat.reduceAdd] at hx88_0);(try rw [show ((0:Int)).toNat=0 from rfl] at hf88_0);(try simp only [Nat.reduceMul,Nat.zero_mul,Nat.zero_add,Nat.reduceAdd] at hf88_0);(try rw [show ((0:Int)).toNat=0 from rfl] at hx88_1);(try simp only [Nat.reduceMul,Nat.zero_mul,Nat.zero_add,Nat.reduceAdd] at hx88_1);(try rw [show ((0:Int)).toNat=0 from rfl] at hf88_1);(try simp only [Nat.reduceMul,Nat.zero_mul,Nat.zero_add,Nat.reduceAdd] at hf88_1);(try rw [show ((0:Int)).toNat=0 from rfl] at hx88_2);(try simp only [Nat.reduceMul,Nat.zero_mul,Nat.zero_add,Nat.reduceAdd] at hx88_2);(try rw [show ((0:Int)).toNat=0 from rfl] at hf88_2);(try simp only [Nat.reduceMul,Nat.zero_mul,Nat.zero_add,Nat.reduceAdd] at hf88_2);(try rw [show ((0:Int)).toNat=0 from rfl] at hx88_3);(try simp only [Nat.reduceMul,Nat.zero_mul,Nat.zero_add,Nat.reduceAdd] at hx88_3);(try rw [show ((0:Int)).toNat=0 from rfl] at hf88_3);(try simp only [Nat.reduceMul,Nat.zero_mul,Nat.zero_add,Nat.reduceAdd] at hf88_3);(try rw [show ((0:Int)).toNat=0 from rfl] at hx88_4);(try simp only [Nat.reduceMul,Nat.zero_mul,Nat.zero_add,Nat.reduceAdd] at hx88_4);(try rw [show ((0:Int)).toNat=0 from rfl] at hf88_4);(try simp only [Nat.reduceMul,Nat.zero_mul,Nat.zero_add,Nat.reduceAdd] at hf88_4);(try rw [show ((0:Int)).toNat=0 from rfl] at hx88_5);(try simp only [Nat.reduceMul,Nat.zero_mul,Nat.zero_add,Nat.reduceAdd] at hx88_5);(try rw [show ((0:Int)).toNat=0 from rfl] at hf88_5);(try simp only [Nat.reduceMul,Nat.zero_mul,Nat.zero_add,Nat.reduceAdd] at hf88_5);replace p88:=eq_true p88;replace q88:=eq_true q88;have HX90:=zzm (show Kd.N k27 27 w89 w.heap.size (fun k_=>(w.heap.size≤k_)∧k_≠g) (.slice (some ⟨go88,0,none⟩) x3_1.length co88) x3_1 from (zzN HO_3.out));obtain ⟨ce90,hcl90,hM90,hcc90,hfr90⟩:=Kd.N_elem HX90.out z27 (0:Int) (by omega) (by have h_:(0:Int) < ((x3_1.length:Int):Int):=zzt;first|exact h_|(have e_:=(Kd.N_reads' HO_3.out).1;omega)|simpa using h_);obtain ⟨ua90_5,uc90_5,rfl,ul90_5,ge90_5⟩:=k27_openF hM90;have HP90:=Kd.N_seg HX90.out (0:Int) (by omega) (by have h_:(0:Int) < ((x3_1.length:Int):Int):=zzt;first|exact h_|(have e_:=(Kd.N_reads' HO_3.out).1;omega)|simpa using h_) (seg:=[.int .i64 100]) (j:=3) hcl90 hcc90 (show 4≤6 from by decide) (x':=(⟨(rd_T27 x3_1 0).f0,(rd_T27 x3_1 0).f1,(rd_T27 x3_1 0).f2,100,(rd_T27 x3_1 0).f4,(rd_T27 x3_1 0).f5⟩:S27)) (k27_mkF _ _ (⟨(rd_T27 x3_1 0).f0,(rd_T27 x3_1 0).f1,(rd_T27 x3_1 0).f2,100,(rd_T27 x3_1 0).f4,(rd_T27 x3_1 0).f5⟩:S27) ul90_5 ge90_5) (fun _ hk=>hk);have hx90_3:=hcc90 3 _ rfl;(try simp only [show (k27).sz=6 from rfl,Nat.mul_one,Nat.add_zero] at hx90_3);(try rw [show ((0:Int)).toNat=0 from rfl] at hx90_3);(try simp only [Nat.reduceMul,Nat.zero_mul,Nat.zero_add,Nat.reduceAdd] at hx90_3);have hf90_3:=hfr90 3;(try simp only [show (k27).sz=6 from rfl,Nat.mul_one,Nat.add_zero] at hf90_3);(try rw [show ((0:Int)).toNat=0 from rfl] at hf90_3);(try simp only [Nat.reduceMul,Nat.zero_mul,Nat.zero_add,Nat.reduceAdd] at hf90_3);clear hcl90 hcc90 hfr90 hM90)|((with_reducible refine gate_store (t:=3) (p:=68) rfl ?_);refine store_event (t:=3) (p:=68) (v:=?vo_w91) (w1:=(w89.setCell ⟨go88,3,none⟩ (.int .i64 100))) ?hg ?ho ?hn ?hr ?_;(case ho=>rfl);(case hg=>rfl);(case hn=>rfl);(case hr=>first|(go_simp;done)|(go_simp;rfl));intro w91 hw;have hg:w89.grownBy w91 (some go88):=(by rw [hw];exact HP90.2);have hp_:Kd.N k27 27 w91 w.heap.size (fun k_=>(w.heap.size≤k_)∧k_≠g) (.slice (some ⟨go88,0,none⟩) x3_1.length co88) y197:=(by rw [hw,Ny197.out];exact HP90.1);clear HP90;have n0_:=zzm (hp_);have n1_:=zzm (IsS94.grown (by repeat (first|(with_reducible first|exact HI0.out|apply IsS94.alloc|apply IsS94.drewN|apply IsS94.drew|apply IsS94.set_1)|exact HI0.out)) hg (IsS94.own_neN HI0.out HO_3.out (by decide)));have n2_:=zzm ((by rw [hw];exact zzd (HB.out) (Nat.le_trans HL.out GB88.out):Below w0.heap.size w0 w91));have n3_:=zzm (KeepBut.trans (by repeat (first|(with_reducible first|exact HK.out|apply KeepBut.set_|apply keep_drewN|apply keep_drew|apply keep_alloc)|exact HK.out)) (KeepBut.of_grown hg g) (Kd.N_base2 HO_3.out));clear HO_3 HI0 HB HK;have HO_3:=n0_;have HI0:=n1_;have HB:=n2_;have HK:=n3_;clear n0_ n1_ n2_ n3_ hg hw hp_));go_ret;exact ⟨_,by first|rfl|(simp [errW_none,errW_some] <;> rfl)|(simp [*,errW_none,errW_some] <;> rfl),by (with_reducible repeat (first|apply Kd.N_alloc|apply Kd.N_drewN|apply Kd.N_drew));exact Kd.N_mono HO_3.out (fun _ hk=>hk.1),by repeat (first|(with_reducible first|exact HI0.out|apply IsS94.alloc|apply IsS94.drewN|apply IsS94.drew|apply IsS94.set_1)|exact HI0.out),by repeat (first|(with_reducible first|exact HB.out|apply zza|apply zzb|apply zzc|refine zzd ?_ (IsS94.ge HI0.out))|exact HB.out),by repeat (first|(with_reducible first|exact HK.out|apply KeepBut.set_|apply keep_drewN|apply keep_drew|apply keep_alloc)|exact HK.out)⟩
     ·
      rw [if_neg c87] at H;exact absurd H (by simp)
    ·
     rw [if_neg c86] at H;have c86b0:(t195==0)=false:=beq_eq_false_iff_ne.mpr c86;have c86b1:(t195 != 0)=true:=bne_iff_ne.mpr c86;simp only [Option.some.injEq,Prod.mk.injEq] at H;obtain ⟨rfl,rfl⟩:=H;go_wp2_with (first|((with_reducible refine gate_callee (f:=54) rfl ?_);refine goesL_ (some 64) rfl rfl Try.func54 (by kernel_rfl) rfl #[.pointer (some ⟨g,0,none⟩),.int .i64 24] rfl zzM2 ?_;(with_reducible refine (spec_l6Rd_pick.calls k1 g s0_0 x1001_1 24 t195 t196 w0 _ ?side1 ?side2 A85.out).mono ?_);(case side1=>repeat (first|(with_reducible first|exact HI0.out|apply IsS94.alloc|apply IsS94.drewN|apply IsS94.drew|apply IsS94.set_1)|exact HI0.out));(case side2=>repeat (first|(with_reducible first|exact HB.out|apply zza|apply zzb|apply zzc|refine zzd ?_ (IsS94.ge HI0.out))|exact HB.out));rintro e w92 ⟨rfl,hi,hb,hk⟩;refine ⟨_,rfl,?_⟩;have n0_:=zzm (Kd.N_mono (Kd.N_keep (Kd.N_mono (ok:=fun k_=>(((w.heap.size≤k_))∧k_≠g)) (zzN HO_3.out) (fun k_ hk_=>(⟨hk_,hk_.2⟩:_∧k_≠g))) hk (fun _ h=>h.2)) (fun _ h=>h.1));have n1_:=zzm (KeepBut.trans (by repeat (first|(with_reducible first|exact HK.out|apply KeepBut.set_|apply keep_drewN|apply keep_drew|apply keep_alloc)|exact HK.out)) hk (.inl rfl));have n2_:=zzm (hb);have n3_:=zzm (hi);clear HO_3 HK HB HI0;have HO_3:=n0_;have HK:=n1_;have HB:=n2_;have HI0:=n3_;clear n0_ n1_ n2_ n3_;(try clear hb);(try clear hb2);(try clear hk);(try clear hi)));go_ret;exact ⟨_,by first|rfl|(simp [errW_none,errW_some] <;> rfl)|(simp [*,errW_none,errW_some] <;> rfl),by (with_reducible repeat (first|apply Kd.N_alloc|apply Kd.N_drewN|apply Kd.N_drew));exact Kd.N_mono HO_3.out (fun _ hk=>hk.1),by repeat (first|(with_reducible first|exact HI0.out|apply IsS94.alloc|apply IsS94.drewN|apply IsS94.drew|apply IsS94.set_1)|exact HI0.out),by repeat (first|(with_reducible first|exact HB.out|apply zza|apply zzb|apply zzc|refine zzd ?_ (IsS94.ge HI0.out))|exact HB.out),by repeat (first|(with_reducible first|exact HK.out|apply KeepBut.set_|apply keep_drewN|apply keep_drew|apply keep_alloc)|exact HK.out)⟩
def spec_DrawStableEnd.f (k:Nat) (l0:List Int):Option ((List (S27))):=(spec_l6Open.f l0).bind fun bt239=>((spec_l92Decided.f k bt239.1 bt239.2).bind fun bt242=>(some bt242.1))
set_option maxHeartbeats 8000000 in
set_option maxRecDepth 100000 in
theorem spec_DrawStableEnd.calls (k:Nat) (A0:Option Addr) (c0:Nat) (l0:List Int) (r:List (S27)) (w:World) (hr0:Kd.C (Kd.int .u8) w A0 l0.length l0) (hc0:l0.length≤c0) (h:spec_DrawStableEnd.f k l0=some r) :
  Calls Try.prog 27 #[.slice A0 l0.length c0] w fun e w'=>∃ v0_:Value,e = .returned (v0_)∧Kd.N k27 27 w' w.heap.size (fun k_=>(w.heap.size≤k_)) v0_ r∧Below w.heap.size w w':=by
 have HR0:=zzm hr0;have HC0:=zzm hc0;clear hr0 hc0;have HB:=zzm (Below.refl w.heap.size w);have H:((spec_l6Open.f l0).bind fun bt239=>((spec_l92Decided.f k bt239.1 bt239.2).bind fun bt242=>(some bt242.1)))=some r:=h;clear h;replace H:=Option.bind_eq_some_iff.mp H;obtain ⟨⟨t239,t240⟩,A20,H⟩:=H;replace H:((spec_l92Decided.f k t239 t240).bind fun bt242=>(some bt242.1))=some r:=H;have A2:=zzm A20;clear A20;replace H:=Option.bind_eq_some_iff.mp H;obtain ⟨⟨t242,t245⟩,A30,H⟩:=H;replace H:(some t242)=some r:=H;have A3:=zzm A30;clear A30;obtain rfl:=Option.some.inj H;go_enter Try.func27,Try.ntmps27;go_wp2_with (first|((with_reducible refine gate_callee (f:=53) rfl ?_);refine goesL_ (some 4) rfl rfl Try.func53 (by kernel_rfl) rfl #[.slice A0 l0.length c0] rfl zzM2 ?_;(with_reducible refine (spec_l6Open.calls _ _ l0 t239 t240 w _ ?side1 ?side2 ?side3 A2.out).mono ?_);(case side1=>repeat (first|(with_reducible first|exact HB.out|apply zza|apply zzb|apply zzc)|exact HB.out));(case side2=>exact HR0.out);(case side3=>exact HC0.out);rintro e w4 ⟨g241,rfl,hi,hb,hb2⟩;refine ⟨_,rfl,?_⟩;have n0_:=zzm (hb);have n1_:=zzm (hi);clear HB;have HB:=n0_;have HI241:=n1_;clear n0_ n1_;(try clear hb);(try clear hb2);(try clear hk);(try clear hi))|((with_reducible refine gate_callee (f:=60) rfl ?_);refine goesL_ (some 5) rfl rfl Try.func60 (by kernel_rfl) rfl #[.pointer (some ⟨g241,0,none⟩)] rfl zzM2 ?_;(with_reducible refine (spec_l92Decided.calls k g241 t239 t240 t242 t245 w _ ?side1 ?side2 A3.out).mono ?_);(case side1=>repeat (first|(with_reducible first|exact HI241.out|apply IsS94.alloc|apply IsS94.drewN|apply IsS94.drew|apply IsS94.set_1)|exact HI241.out));(case side2=>repeat (first|(with_reducible first|exact HB.out|apply zza|apply zzb|apply zzc|refine zzd ?_ (IsS94.ge HI241.out))|exact HB.out));rintro e w5 ⟨v243,rfl,ho0,hi,hb,hk⟩;refine ⟨_,rfl,?_⟩;have n0_:=zzm (Kd.N_lower (Kd.N_mono (ok':=fun k_=>(w.heap.size≤k_)∧k_≠g241) ho0 (fun k_ hk_=>⟨(Nat.le_trans (zzo (by repeat (first|(with_reducible first|exact HB.out|apply zza|apply zzb|apply zzc|refine zzd ?_ (IsS94.ge HI241.out))|exact HB.out))) hk_),(IsS94.fresh (by repeat (first|(with_reducible first|exact HI241.out|apply IsS94.alloc|apply IsS94.drewN|apply IsS94.drew|apply IsS94.set_1)|exact HI241.out)) k_ hk_)⟩)) (zzo (by repeat (first|(with_reducible first|exact HB.out|apply zza|apply zzb|apply zzc|refine zzd ?_ (IsS94.ge HI241.out))|exact HB.out))));have n1_:=zzm (hb);have n2_:=zzm (hi);clear HB HI241;have HO244:=n0_;have HB:=n1_;have HI241:=n2_;clear n0_ n1_ n2_;(try clear hb);(try clear hb2);(try clear hk);(try clear hi);(try clear ho0)));go_ret;exact ⟨_,by first|rfl|(simp [errW_none,errW_some] <;> rfl)|(simp [*,errW_none,errW_some] <;> rfl),by (with_reducible repeat (first|apply Kd.N_alloc|apply Kd.N_drewN|apply Kd.N_drew));exact Kd.N_mono HO244.out (fun _ hk=>hk.1),by repeat (first|(with_reducible first|exact HB.out|apply zza|apply zzb|apply zzc|refine zzd ?_ (IsS94.ge HI241.out))|exact HB.out)⟩
def impl_within.f (a0:Int) (a1:Int) (a2:Int):Option (Bool):=if a0 ≥ a1 then (some (decide (a0≤a2))) else (some false)
set_option maxHeartbeats 8000000 in
set_option maxRecDepth 100000 in
theorem impl_within.calls (a0:Int) (a1:Int) (a2:Int) (r:Bool) (w:World) (h:impl_within.f a0 a1 a2=some r) :
  Calls Try.prog 57 #[.int .i64 a0,.int .i64 a1,.int .i64 a2] w fun e w'=>e = .returned (.bool r)∧Drawn0 w w':=by
 have H:(if a0 ≥ a1 then (some (decide (a0≤a2))) else (some false))=some r:=h;clear h;by_cases c4:a0 ≥ a1
 ·
  rw [if_pos c4] at H;have c4b0:decide (a1≤a0)=true:=decide_eq_true c4;clear c4;obtain rfl:=Option.some.inj H;go_enter Try.func57,Try.ntmps57;go_wp2;go_ret;exact ⟨by first|rfl|(simp;done)|(simp [*];done),by repeat (first|exact Drawn0.refl _|apply Drawn0.step)⟩
 ·
  rw [if_neg c4] at H;have c4b0:decide (a1≤a0)=false:=decide_eq_false c4;clear c4;obtain rfl:=Option.some.inj H;go_enter Try.func57,Try.ntmps57;go_wp2;go_ret;exact ⟨by first|rfl|(simp;done)|(simp [*];done),by repeat (first|exact Drawn0.refl _|apply Drawn0.step)⟩
def impl_idValid.f (a0:Int):Option (Bool):=(impl_within.f a0 0 254).bind fun t246=>(some t246)
set_option maxHeartbeats 8000000 in
set_option maxRecDepth 100000 in
theorem impl_idValid.calls (a0:Int) (r:Bool) (w:World) (h:impl_idValid.f a0=some r) :
  Calls Try.prog 56 #[.int .i64 a0] w fun e w'=>e = .returned (.bool r)∧Drawn0 w w':=by
 have H:((impl_within.f a0 0 254).bind fun t246=>(some t246))=some r:=h;clear h;replace H:=Option.bind_eq_some_iff.mp H;obtain ⟨t246,A20,H⟩:=H;replace H:(some t246)=some r:=H;have A2:=zzm A20;clear A20;obtain rfl:=Option.some.inj H;go_enter Try.func56,Try.ntmps56;go_wp2_with (first|((with_reducible refine gate_callee (f:=57) rfl ?_);refine goesL_ (some 4) rfl rfl Try.func57 (by kernel_rfl) rfl #[.int .i64 a0,.int .i64 0,.int .i64 254] rfl zzM2 ?_;(with_reducible refine (impl_within.calls a0 0 254 t246 _ A2.out).mono ?_);rintro e w' ⟨rfl,⟨nd,rfl⟩⟩;refine ⟨_,rfl,?_⟩));go_ret;exact ⟨by first|rfl|(simp;done)|(simp [*];done),by repeat (first|exact Drawn0.refl _|apply Drawn0.step)⟩
def impl_baseValid.f (a0:Int) (a1:Int):Option (Bool):=(impl_within.f a0 0 99999).bind fun t247=>(if t247=true then ((impl_within.f a1 0 99999).bind fun t248=>(some t248)) else (some false))
set_option maxHeartbeats 8000000 in
set_option maxRecDepth 100000 in
theorem impl_baseValid.calls (a0:Int) (a1:Int) (r:Bool) (w:World) (h:impl_baseValid.f a0 a1=some r) :
  Calls Try.prog 85 #[.int .i64 a0,.int .i64 a1] w fun e w'=>e = .returned (.bool r)∧Drawn0 w w':=by
 have H:((impl_within.f a0 0 99999).bind fun t247=>(if t247=true then ((impl_within.f a1 0 99999).bind fun t248=>(some t248)) else (some false)))=some r:=h;clear h;replace H:=Option.bind_eq_some_iff.mp H;obtain ⟨t247,A30,H⟩:=H;replace H:(if t247=true then ((impl_within.f a1 0 99999).bind fun t248=>(some t248)) else (some false))=some r:=H;have A3:=zzm A30;clear A30;by_cases c4:t247=true
 ·
  subst c4;have H1:((impl_within.f a1 0 99999).bind fun t248=>(some t248))=some r:=by rw [if_pos rfl] at H;exact H
  clear H;have H:=H1;clear H1;replace H:=Option.bind_eq_some_iff.mp H;obtain ⟨t248,A50,H⟩:=H;replace H:(some t248)=some r:=H;have A5:=zzm A50;clear A50;obtain rfl:=Option.some.inj H;go_enter Try.func85,Try.ntmps85;go_wp2_with (first|((with_reducible refine gate_callee (f:=57) rfl ?_);refine goesL_ (some 6) rfl rfl Try.func57 (by kernel_rfl) rfl #[.int .i64 a0,.int .i64 0,.int .i64 99999] rfl zzM2 ?_;(with_reducible refine (impl_within.calls a0 0 99999 true _ A3.out).mono ?_);rintro e w' ⟨rfl,⟨nd,rfl⟩⟩;refine ⟨_,rfl,?_⟩)|(go_at_call 57;(with_reducible refine (impl_within.calls a1 0 99999 t248 _ A5.out).mono ?_);rintro e w' ⟨rfl,⟨nd,rfl⟩⟩));go_ret;exact ⟨by first|rfl|(simp;done)|(simp [*];done),by repeat (first|exact Drawn0.refl _|apply Drawn0.step)⟩
 ·
  replace c4:=Bool.eq_false_iff.mpr c4;subst c4;have H1:(some false)=some r:=by rw [if_neg (show ¬ (false=true) by decide)] at H;exact H
  clear H;have H:=H1;clear H1;obtain rfl:=Option.some.inj H;go_enter Try.func85,Try.ntmps85;go_wp2_with (first|((with_reducible refine gate_callee (f:=57) rfl ?_);refine goesL_ (some 6) rfl rfl Try.func57 (by kernel_rfl) rfl #[.int .i64 a0,.int .i64 0,.int .i64 99999] rfl zzM2 ?_;(with_reducible refine (impl_within.calls a0 0 99999 false _ A3.out).mono ?_);rintro e w' ⟨rfl,⟨nd,rfl⟩⟩;refine ⟨_,rfl,?_⟩));go_ret;exact ⟨by first|rfl|(simp;done)|(simp [*];done),by repeat (first|exact Drawn0.refl _|apply Drawn0.step)⟩
def impl_isByte.f (a0:Int):Option (Bool):=if a0 ≥ 0 then (some (decide (a0≤255))) else (some false)
set_option maxHeartbeats 8000000 in
set_option maxRecDepth 100000 in
theorem impl_isByte.calls (a0:Int) (r:Bool) (w:World) (h:impl_isByte.f a0=some r) :
  Calls Try.prog 110 #[.int .i64 a0] w fun e w'=>e = .returned (.bool r)∧Drawn0 w w':=by
 have H:(if a0 ≥ 0 then (some (decide (a0≤255))) else (some false))=some r:=h;clear h;by_cases c2:a0 ≥ 0
 ·
  rw [if_pos c2] at H;have c2b0:decide (0≤a0)=true:=decide_eq_true c2;clear c2;obtain rfl:=Option.some.inj H;go_enter Try.func110,Try.ntmps110;go_wp2;go_ret;exact ⟨by first|rfl|(simp;done)|(simp [*];done),by repeat (first|exact Drawn0.refl _|apply Drawn0.step)⟩
 ·
  rw [if_neg c2] at H;have c2b0:decide (0≤a0)=false:=decide_eq_false c2;clear c2;obtain rfl:=Option.some.inj H;go_enter Try.func110,Try.ntmps110;go_wp2;go_ret;exact ⟨by first|rfl|(simp;done)|(simp [*];done),by repeat (first|exact Drawn0.refl _|apply Drawn0.step)⟩
def impl_Batch_first.f (a0_0:Bool) (a0_1:Bool) (a0_2:Int) (a0_3:Int) (a0_4:Int) (l0_5:List (S34)):Option (Int):=if 0 < (l0_5.length:Int) then (some ((rd_T34 l0_5 0).f0)) else (none)
set_option maxHeartbeats 8000000 in
set_option maxRecDepth 100000 in
theorem impl_Batch_first.calls (a0_0:Bool) (a0_1:Bool) (a0_2:Int) (a0_3:Int) (a0_4:Int) (A0_5:Option Addr) (c0_5:Nat) (l0_5:List (S34)) (r:Int) (w:World) (hr0_5:Kd.C k34 w A0_5 l0_5.length l0_5) (hc0_5:l0_5.length≤c0_5) (h:impl_Batch_first.f a0_0 a0_1 a0_2 a0_3 a0_4 l0_5=some r) :
  Calls Try.prog 63 #[.agg #[.bool a0_0,.bool a0_1,.int .i64 a0_2,.int .i64 a0_3,.int .i64 a0_4,.slice A0_5 l0_5.length c0_5]] w fun e w'=>e = .returned (.int .i64 r)∧Below w.heap.size w w':=by
 have hu27:=Try.underlying27;have HR0_5:=zzm hr0_5;have HC0_5:=zzm hc0_5;clear hr0_5 hc0_5;have HB:=zzm (Below.refl w.heap.size w);have H:(if 0 < (l0_5.length:Int) then (some ((rd_T34 l0_5 0).f0)) else (none))=some r:=h;clear h;by_cases c2 : 0 < (l0_5.length:Int)
 ·
  rw [if_pos c2] at H;have c2b0:decide (0 < (l0_5.length:Int))=true:=decide_eq_true c2;have c2b1:decide (0 < l0_5.length)=true:=decide_eq_true (by omega);clear c2;obtain rfl:=Option.some.inj H;go_enter Try.func63,Try.ntmps63;go_wp2_with (first|((with_reducible refine gate_dst (N:=1) rfl ?_);refine box_event ?hg (N:=1) ?hd (cs:=#[.bool a0_0,.bool a0_1,.int .i64 a0_2,.int .i64 a0_3,.int .i64 a0_4,.slice A0_5 l0_5.length c0_5]) (t:=27) ?hr ?_;(case hd=>rfl);(case hg=>rfl);(case hr=>first|(go_simp;done)|(go_simp;rfl));intro gb265 hg w3 hbox hb;have n0_:=zzm (zzp zzh1 hb);have n1_:=zzm (hbox);have n2_:=zzm ((by rw [hg];exact (zzo zzh1):w.heap.size≤gb265));have n3_:=zzm ((by rw [hg];exact (zzo zzh1):w.heap.size≤gb265));clear HB;have HB:=n0_;have BK265:=n1_;have GW265:=n2_;have GE265:=n3_;clear n0_ n1_ n2_ n3_ hb hbox hg;obtain ⟨hcz4_0,hcz4_1,hcz4_2,hcz4_3,hcz4_4,hcz4_5,hfz4_0,hfz4_1,hfz4_2,hfz4_3,hfz4_4,hfz4_5⟩:=zzc6 BK265.out;have p266 : 0≤(0:Int):=(by omega);have q266 : 0 < (l0_5.length:Int):=zzt;obtain ⟨ad266,A266_3,c266_3,A266_5,c266_5,e266,hx266_0,hx266_1,hx266_2,hx266_3,hx266_4,hx266_5,hl266_3,hi266_3,hl266_5,hi266_5⟩:=at_T34 HR0_5.out 0 p266 q266;cases e266;have qi266:(0 < l0_5.length)=True:=eq_true (by omega);(try rw [show ((0:Int)).toNat=0 from rfl] at hx266_0);(try rw [show 0 * 6=0 from rfl] at hx266_0);(try rw [Addr.add_zero'] at hx266_0);(try rw [show ((0:Int)).toNat=0 from rfl] at hx266_1);(try rw [show 0 * 6=0 from rfl] at hx266_1);(try rw [Addr.add_zero'] at hx266_1);(try rw [show ((0:Int)).toNat=0 from rfl] at hx266_2);(try rw [show 0 * 6=0 from rfl] at hx266_2);(try rw [Addr.add_zero'] at hx266_2);(try rw [show ((0:Int)).toNat=0 from rfl] at hx266_3);(try rw [show 0 * 6=0 from rfl] at hx266_3);(try rw [Addr.add_zero'] at hx266_3);(try rw [show ((0:Int)).toNat=0 from rfl] at hx266_4);(try rw [show 0 * 6=0 from rfl] at hx266_4);(try rw [Addr.add_zero'] at hx266_4);(try rw [show ((0:Int)).toNat=0 from rfl] at hx266_5);(try rw [show 0 * 6=0 from rfl] at hx266_5);(try rw [Addr.add_zero'] at hx266_5);replace hx266_0:=zzx HB.out hx266_0;replace hx266_1:=zzx HB.out hx266_1;replace hx266_2:=zzx HB.out hx266_2;replace hx266_3:=zzx HB.out hx266_3;replace hx266_4:=zzx HB.out hx266_4;replace hx266_5:=zzx HB.out hx266_5;have HR266_3:=zzm hi266_3;have HC266_3:=zzm hl266_3;clear hi266_3 hl266_3;have HR266_5:=zzm hi266_5;have HC266_5:=zzm hl266_5;clear hi266_5 hl266_5;replace p266:=eq_true p266;replace q266:=eq_true q266));go_ret;exact ⟨by first|rfl|(simp [errW_none,errW_some] <;> rfl)|(simp [*,errW_none,errW_some] <;> rfl),by repeat (first|(with_reducible first|exact HB.out|apply zza|apply zzb|apply zzc|refine zzd ?_ GE265.out)|exact HB.out)⟩
 ·
  rw [if_neg c2] at H;exact absurd H (by simp)
def impl_Batch_last.f (a0_0:Bool) (a0_1:Bool) (a0_2:Int) (a0_3:Int) (a0_4:Int) (l0_5:List (S34)):Option (Int):=if 0≤(wrap64 ((l0_5.length:Int) - 1)) then (if (wrap64 ((l0_5.length:Int) - 1)) < (l0_5.length:Int) then (some ((rd_T34 l0_5 (wrap64 ((l0_5.length:Int) - 1))).f0)) else (none)) else (none)
set_option maxHeartbeats 8000000 in
set_option maxRecDepth 100000 in
theorem impl_Batch_last.calls (a0_0:Bool) (a0_1:Bool) (a0_2:Int) (a0_3:Int) (a0_4:Int) (A0_5:Option Addr) (c0_5:Nat) (l0_5:List (S34)) (r:Int) (w:World) (hr0_5:Kd.C k34 w A0_5 l0_5.length l0_5) (hc0_5:l0_5.length≤c0_5) (h:impl_Batch_last.f a0_0 a0_1 a0_2 a0_3 a0_4 l0_5=some r) :
  Calls Try.prog 65 #[.agg #[.bool a0_0,.bool a0_1,.int .i64 a0_2,.int .i64 a0_3,.int .i64 a0_4,.slice A0_5 l0_5.length c0_5]] w fun e w'=>e = .returned (.int .i64 r)∧Below w.heap.size w w':=by
 have hu27:=Try.underlying27;have HR0_5:=zzm hr0_5;have HC0_5:=zzm hc0_5;clear hr0_5 hc0_5;have HB:=zzm (Below.refl w.heap.size w);have H:(if 0≤(wrap64 ((l0_5.length:Int) - 1)) then (if (wrap64 ((l0_5.length:Int) - 1)) < (l0_5.length:Int) then (some ((rd_T34 l0_5 (wrap64 ((l0_5.length:Int) - 1))).f0)) else (none)) else (none))=some r:=h;clear h;obtain ⟨ji2,hji2⟩:∃ j_:Int,(wrap64 ((l0_5.length:Int) - 1))=j_:=⟨_,rfl⟩;replace H:(if 0≤(ji2) then (if (ji2) < (l0_5.length:Int) then (some ((rd_T34 l0_5 (ji2)).f0)) else (none)) else (none))=some r:=by first|(rw [hji2] at H;exact H)|(simp only [hji2] at H ⊢;exact H)
 have hji2w:(IntKind.i64.wrap ((l0_5.length:Int) - 1))=ji2:=(i64_w _).trans hji2;by_cases c3 : 0≤(ji2)
 ·
  rw [if_pos c3] at H;have c3b0:decide (0≤(ji2))=true:=decide_eq_true c3;clear c3;by_cases c4:(ji2) < (l0_5.length:Int)
  ·
   rw [if_pos c4] at H;have c4b0:decide ((ji2) < (l0_5.length:Int))=true:=decide_eq_true c4;clear c4;obtain rfl:=Option.some.inj H;go_enter Try.func65,Try.ntmps65;go_wp2_with (first|((with_reducible refine gate_dst (N:=1) rfl ?_);refine box_event ?hg (N:=1) ?hd (cs:=#[.bool a0_0,.bool a0_1,.int .i64 a0_2,.int .i64 a0_3,.int .i64 a0_4,.slice A0_5 l0_5.length c0_5]) (t:=27) ?hr ?_;(case hd=>rfl);(case hg=>rfl);(case hr=>first|(go_simp;done)|(go_simp;rfl));intro gb267 hg w5 hbox hb;have n0_:=zzm (zzp zzh1 hb);have n1_:=zzm (hbox);have n2_:=zzm ((by rw [hg];exact (zzo zzh1):w.heap.size≤gb267));have n3_:=zzm ((by rw [hg];exact (zzo zzh1):w.heap.size≤gb267));clear HB;have HB:=n0_;have BK267:=n1_;have GW267:=n2_;have GE267:=n3_;clear n0_ n1_ n2_ n3_ hb hbox hg;obtain ⟨hcz6_0,hcz6_1,hcz6_2,hcz6_3,hcz6_4,hcz6_5,hfz6_0,hfz6_1,hfz6_2,hfz6_3,hfz6_4,hfz6_5⟩:=zzc6 BK267.out;have p268 : 0≤((ji2):Int):=zzt;have q268:(ji2) < (l0_5.length:Int):=zzt;obtain ⟨ad268,A268_3,c268_3,A268_5,c268_5,e268,hx268_0,hx268_1,hx268_2,hx268_3,hx268_4,hx268_5,hl268_3,hi268_3,hl268_5,hi268_5⟩:=at_T34 HR0_5.out (ji2) p268 q268;cases e268;replace hx268_0:=zzx HB.out hx268_0;replace hx268_1:=zzx HB.out hx268_1;replace hx268_2:=zzx HB.out hx268_2;replace hx268_3:=zzx HB.out hx268_3;replace hx268_4:=zzx HB.out hx268_4;replace hx268_5:=zzx HB.out hx268_5;have HR268_3:=zzm hi268_3;have HC268_3:=zzm hl268_3;clear hi268_3 hl268_3;have HR268_5:=zzm hi268_5;have HC268_5:=zzm hl268_5;clear hi268_5 hl268_5;replace p268:=eq_true p268;replace q268:=eq_true q268));go_ret;exact ⟨by first|rfl|(simp [errW_none,errW_some] <;> rfl)|(simp only [← hji2];first|rfl|(simp [errW_none,errW_some] <;> rfl))|(simp [*,errW_none,errW_some] <;> rfl),by repeat (first|(with_reducible first|exact HB.out|apply zza|apply zzb|apply zzc|refine zzd ?_ GE267.out)|exact HB.out)⟩
  ·
   rw [if_neg c4] at H;exact absurd H (by simp)
 ·
  rw [if_neg c3] at H;exact absurd H (by simp)
def impl_allBytes.l0:Nat→List Int→Int→Int→Option (Bool)
 | 0,_,_,_=>none
 | k+1,x5,x6,x7=>if x7 < x6 then (if 0≤x7 then (if x7 < (x5.length:Int) then ((impl_isByte.f (rd x5 x7)).bind fun t250=>(if t250=true then (impl_allBytes.l0 k x5 x6 (wrap64 (x7+1))) else (some false))) else (none)) else (none)) else (some true)
def impl_allBytes.f (k:Nat) (l0:List Int):Option (Bool):=impl_allBytes.l0 k l0 (l0.length:Int) 0
set_option maxHeartbeats 8000000 in
set_option maxRecDepth 100000 in
theorem impl_allBytes.calls (k:Nat) (A0:Option Addr) (c0:Nat) (l0:List Int) (r:Bool) (w:World) (hr0:Kd.C (Kd.int .i64) w A0 l0.length l0) (hc0:l0.length≤c0) (h:impl_allBytes.f k l0=some r) :
  Calls Try.prog 100 #[.slice A0 l0.length c0] w fun e w'=>e = .returned (.bool r)∧Drawn0 w w':=by
 have HR0:=zzm hr0;have HC0:=zzm hc0;clear hr0 hc0;have H:(impl_allBytes.l0 k l0 (l0.length:Int) 0)=some r:=h;clear h;have H':=zzm H;clear H;go_enter Try.func100,Try.ntmps100;go_wp2;go_loopg [7] k (fun kq v7 w'=>∃ (x7_1:Int),v7 = .int .i64 x7_1∧Aside0 (impl_allBytes.l0 kq l0 (l0.length:Int) x7_1=some r)∧Aside0 (kq≤k)∧Drawn0 w w')
 case atStart=>exact ⟨(0),(by first|rfl|(simp;done)|(simp [*];done)),H',⟨Nat.le_refl _⟩,by repeat (first|exact Drawn0.refl _|apply Drawn0.step)⟩
 case round=>
  clear H';try clear c1
  obtain ⟨x7_1,rfl,HA,HK1,⟨m1,rfl⟩⟩:=hrel;cases gk with
  | zero=>exact absurd HA.out (by simp [impl_allBytes.l0])
  | succ k1=>
   have H:=HA.out;clear HA;simp only [impl_allBytes.l0] at H;by_cases c2:x7_1 < (l0.length:Int)
   ·
    rw [if_pos c2] at H;have c2b0:decide (x7_1 < (l0.length:Int))=true:=decide_eq_true c2;clear c2;by_cases c3 : 0≤x7_1
    ·
     rw [if_pos c3] at H;have c3b0:decide (0≤x7_1)=true:=decide_eq_true c3;clear c3;by_cases c4:x7_1 < (l0.length:Int)
     ·
      rw [if_pos c4] at H;have c4b0:decide (x7_1 < (l0.length:Int))=true:=decide_eq_true c4;clear c4;replace H:=Option.bind_eq_some_iff.mp H;obtain ⟨t250,A50,H⟩:=H;replace H:(if t250=true then (impl_allBytes.l0 k1 l0 (l0.length:Int) (wrap64 (x7_1+1))) else (some false))=some r:=H;have A5:=zzm A50;clear A50;by_cases c6:t250=true
      ·
       subst c6;have H1:(impl_allBytes.l0 k1 l0 (l0.length:Int) (wrap64 (x7_1+1)))=some r:=by rw [if_pos rfl] at H;exact H
       clear H;have H:=H1;clear H1;have H':=zzm H;clear H;have p249 : 0≤(x7_1:Int):=zzt;have q249:x7_1 < (l0.length:Int):=zzt;obtain ⟨ad249,e249,hx249_0⟩:=Kd.at_int HR0.out x7_1 p249 q249;cases e249;replace p249:=eq_true p249;replace q249:=eq_true q249;go_wp2_with (first|((with_reducible refine gate_callee (f:=110) rfl ?_);refine goesL_ (some 12) rfl rfl Try.func110 (by kernel_rfl) rfl #[.int .i64 (rd l0 x7_1)] rfl zzM2 ?_;(with_reducible refine (impl_isByte.calls (rd l0 x7_1) true _ A5.out).mono ?_);rintro e w' ⟨rfl,⟨nd,rfl⟩⟩;refine ⟨_,rfl,?_⟩));go_roundg k1
       case measure=>have:=HK1.out;omega
       case rel=>exact ⟨(wrap64 (x7_1+1)),(by first|rfl|(simp;done)|(simp [*];done)),H',⟨by have:=HK1.out;omega⟩,by repeat (first|exact Drawn0.refl _|apply Drawn0.step)⟩
      ·
       replace c6:=Bool.eq_false_iff.mpr c6;subst c6;have H1:(some false)=some r:=by rw [if_neg (show ¬ (false=true) by decide)] at H;exact H
       clear H;have H:=H1;clear H1;obtain rfl:=Option.some.inj H;have p249 : 0≤(x7_1:Int):=zzt;have q249:x7_1 < (l0.length:Int):=zzt;obtain ⟨ad249,e249,hx249_0⟩:=Kd.at_int HR0.out x7_1 p249 q249;cases e249;replace p249:=eq_true p249;replace q249:=eq_true q249;go_wp2_with (first|((with_reducible refine gate_callee (f:=110) rfl ?_);refine goesL_ (some 12) rfl rfl Try.func110 (by kernel_rfl) rfl #[.int .i64 (rd l0 x7_1)] rfl zzM2 ?_;(with_reducible refine (impl_isByte.calls (rd l0 x7_1) false _ A5.out).mono ?_);rintro e w' ⟨rfl,⟨nd,rfl⟩⟩;refine ⟨_,rfl,?_⟩));go_ret;exact ⟨by first|rfl|(simp;done)|(simp [*];done),by repeat (first|exact Drawn0.refl _|apply Drawn0.step)⟩
     ·
      rw [if_neg c4] at H;exact absurd H (by simp)
    ·
     rw [if_neg c3] at H;exact absurd H (by simp)
   ·
    rw [if_neg c2] at H;have c2b0:decide (x7_1 < (l0.length:Int))=false:=decide_eq_false c2;clear c2;obtain rfl:=Option.some.inj H;go_wp2;go_ret;exact ⟨by first|rfl|(simp;done)|(simp [*];done),by repeat (first|exact Drawn0.refl _|apply Drawn0.step)⟩
def impl_partValid.f (k:Nat) (a0:Bool) (l1:List Int):Option (Bool):=if a0=true then (if (l1.length:Int)≤12 then ((impl_allBytes.f k l1).bind fun t251=>(some t251)) else (some false)) else (some ((l1.length:Int)==0))
set_option maxHeartbeats 8000000 in
set_option maxRecDepth 100000 in
theorem impl_partValid.calls (k:Nat) (a0:Bool) (A1:Option Addr) (c1:Nat) (l1:List Int) (r:Bool) (w:World) (hr1:Kd.C (Kd.int .i64) w A1 l1.length l1) (hc1:l1.length≤c1) (h:impl_partValid.f k a0 l1=some r) :
  Calls Try.prog 86 #[.bool a0,.slice A1 l1.length c1] w fun e w'=>e = .returned (.bool r)∧Drawn0 w w':=by
 have HR1:=zzm hr1;have HC1:=zzm hc1;clear hr1 hc1;have H:(if a0=true then (if (l1.length:Int)≤12 then ((impl_allBytes.f k l1).bind fun t251=>(some t251)) else (some false)) else (some ((l1.length:Int)==0)))=some r:=h;clear h;by_cases c3:a0=true
 ·
  subst c3;have H1:(if (l1.length:Int)≤12 then ((impl_allBytes.f k l1).bind fun t251=>(some t251)) else (some false))=some r:=by rw [if_pos rfl] at H;exact H
  clear H;have H:=H1;clear H1;by_cases c4:(l1.length:Int)≤12
  ·
   rw [if_pos c4] at H;have c4b0:decide ((l1.length:Int)≤12)=true:=decide_eq_true c4;have c4b1:decide (l1.length≤12)=true:=decide_eq_true (by omega);clear c4;replace H:=Option.bind_eq_some_iff.mp H;obtain ⟨t251,A50,H⟩:=H;replace H:(some t251)=some r:=H;have A5:=zzm A50;clear A50;obtain rfl:=Option.some.inj H;go_enter Try.func86,Try.ntmps86;go_wp2_with (first|(go_at_call 100;(with_reducible refine (impl_allBytes.calls k _ _ l1 t251 _ ?side1 ?side2 A5.out).mono ?_);(case side1=>repeat (first|exact HR1.out|(with_reducible refine Kd.C_alloc ?_ _)|(with_reducible refine Kd.C_drewN ?_ _)|(with_reducible refine Kd.C_drew ?_)));(case side2=>exact HC1.out);rintro e w' ⟨rfl,⟨nd,rfl⟩⟩));go_ret;exact ⟨by first|rfl|(simp;done)|(simp [*];done),by repeat (first|exact Drawn0.refl _|apply Drawn0.step)⟩
  ·
   rw [if_neg c4] at H;have c4b0:decide ((l1.length:Int)≤12)=false:=decide_eq_false c4;have c4b1:decide (l1.length≤12)=false:=decide_eq_false (by omega);clear c4;obtain rfl:=Option.some.inj H;go_enter Try.func86,Try.ntmps86;go_wp2;go_ret;exact ⟨by first|rfl|(simp;done)|(simp [*];done),by repeat (first|exact Drawn0.refl _|apply Drawn0.step)⟩
 ·
  replace c3:=Bool.eq_false_iff.mpr c3;subst c3;have H1:(some ((l1.length:Int)==0))=some r:=by rw [if_neg (show ¬ (false=true) by decide)] at H;exact H
  clear H;have H:=H1;clear H1;obtain rfl:=Option.some.inj H;go_enter Try.func86,Try.ntmps86;go_wp2;go_ret;exact ⟨by first|rfl|(simp;done)|(simp [*];done),by repeat (first|exact Drawn0.refl _|apply Drawn0.step)⟩
def impl_RecordValid.f (k:Nat) (a0_0:Int) (a0_1:Int) (a0_2:Bool) (l0_3:List Int) (a0_4:Bool) (l0_5:List Int):Option (Bool):=(impl_baseValid.f a0_0 a0_1).bind fun t253=>(if t253=true then ((impl_partValid.f k a0_2 l0_3).bind fun t254=>(if t254=true then ((impl_partValid.f k a0_4 l0_5).bind fun t255=>(some t255)) else (some false))) else (some false))
set_option maxHeartbeats 8000000 in
set_option maxRecDepth 100000 in
theorem impl_RecordValid.calls (k:Nat) (a0_0:Int) (a0_1:Int) (a0_2:Bool) (A0_3:Option Addr) (c0_3:Nat) (l0_3:List Int) (a0_4:Bool) (A0_5:Option Addr) (c0_5:Nat) (l0_5:List Int) (r:Bool) (w:World) (hr0_3:Kd.C (Kd.int .i64) w A0_3 l0_3.length l0_3) (hc0_3:l0_3.length≤c0_3) (hr0_5:Kd.C (Kd.int .i64) w A0_5 l0_5.length l0_5) (hc0_5:l0_5.length≤c0_5) (h:impl_RecordValid.f k a0_0 a0_1 a0_2 l0_3 a0_4 l0_5=some r) :
  Calls Try.prog 58 #[.agg #[.int .i64 a0_0,.int .i64 a0_1,.bool a0_2,.slice A0_3 l0_3.length c0_3,.bool a0_4,.slice A0_5 l0_5.length c0_5]] w fun e w'=>e = .returned (.bool r)∧Below w.heap.size w w':=by
 have hu34:=Try.underlying34;have HR0_3:=zzm hr0_3;have HC0_3:=zzm hc0_3;clear hr0_3 hc0_3;have HR0_5:=zzm hr0_5;have HC0_5:=zzm hc0_5;clear hr0_5 hc0_5;have HB:=zzm (Below.refl w.heap.size w);have H:((impl_baseValid.f a0_0 a0_1).bind fun t253=>(if t253=true then ((impl_partValid.f k a0_2 l0_3).bind fun t254=>(if t254=true then ((impl_partValid.f k a0_4 l0_5).bind fun t255=>(some t255)) else (some false))) else (some false)))=some r:=h;clear h;replace H:=Option.bind_eq_some_iff.mp H;obtain ⟨t253,A20,H⟩:=H;replace H:(if t253=true then ((impl_partValid.f k a0_2 l0_3).bind fun t254=>(if t254=true then ((impl_partValid.f k a0_4 l0_5).bind fun t255=>(some t255)) else (some false))) else (some false))=some r:=H;have A2:=zzm A20;clear A20;by_cases c3:t253=true
 ·
  subst c3;have H1:((impl_partValid.f k a0_2 l0_3).bind fun t254=>(if t254=true then ((impl_partValid.f k a0_4 l0_5).bind fun t255=>(some t255)) else (some false)))=some r:=by rw [if_pos rfl] at H;exact H
  clear H;have H:=H1;clear H1;replace H:=Option.bind_eq_some_iff.mp H;obtain ⟨t254,A40,H⟩:=H;replace H:(if t254=true then ((impl_partValid.f k a0_4 l0_5).bind fun t255=>(some t255)) else (some false))=some r:=H;have A4:=zzm A40;clear A40;by_cases c5:t254=true
  ·
   subst c5;have H1:((impl_partValid.f k a0_4 l0_5).bind fun t255=>(some t255))=some r:=by rw [if_pos rfl] at H;exact H
   clear H;have H:=H1;clear H1;replace H:=Option.bind_eq_some_iff.mp H;obtain ⟨t255,A60,H⟩:=H;replace H:(some t255)=some r:=H;have A6:=zzm A60;clear A60;obtain rfl:=Option.some.inj H;go_enter Try.func58,Try.ntmps58;go_wp2_with (first|((with_reducible refine gate_dst (N:=1) rfl ?_);refine box_event ?hg (N:=1) ?hd (cs:=#[.int .i64 a0_0,.int .i64 a0_1,.bool a0_2,.slice A0_3 l0_3.length c0_3,.bool a0_4,.slice A0_5 l0_5.length c0_5]) (t:=34) ?hr ?_;(case hd=>rfl);(case hg=>rfl);(case hr=>first|(go_simp;done)|(go_simp;rfl));intro gb252 hg w7 hbox hb;have n0_:=zzm (zzp zzh1 hb);have n1_:=zzm (hbox);have n2_:=zzm ((by rw [hg];exact (zzo zzh1):w.heap.size≤gb252));have n3_:=zzm ((by rw [hg];exact (zzo zzh1):w.heap.size≤gb252));clear HB;have HB:=n0_;have BK252:=n1_;have GW252:=n2_;have GE252:=n3_;clear n0_ n1_ n2_ n3_ hb hbox hg;obtain ⟨hcz8_0,hcz8_1,hcz8_2,hcz8_3,hcz8_4,hcz8_5,hfz8_0,hfz8_1,hfz8_2,hfz8_3,hfz8_4,hfz8_5⟩:=zzc6 BK252.out)|((with_reducible refine gate_callee (f:=85) rfl ?_);refine goesL_ (some 7) rfl rfl Try.func85 (by kernel_rfl) rfl #[.int .i64 a0_0,.int .i64 a0_1] rfl zzM2 ?_;(with_reducible refine (impl_baseValid.calls a0_0 a0_1 true _ A2.out).mono ?_);rintro e w' ⟨rfl,⟨nd,rfl⟩⟩;refine ⟨_,rfl,?_⟩)|(go_at_call 86;(with_reducible refine (impl_partValid.calls k a0_2 _ _ l0_3 true _ ?side1 ?side2 A4.out).mono ?_);(case side1=>repeat (first|exact (Kd.C_below HR0_3.out zzh2)|(with_reducible refine Kd.C_alloc ?_ _)|(with_reducible refine Kd.C_drewN ?_ _)|(with_reducible refine Kd.C_drew ?_)));(case side2=>exact HC0_3.out);rintro e w' ⟨rfl,⟨nd,rfl⟩⟩)|(go_at_call 86;(with_reducible refine (impl_partValid.calls k a0_4 _ _ l0_5 t255 _ ?side1 ?side2 A6.out).mono ?_);(case side1=>repeat (first|exact (Kd.C_below HR0_5.out zzh2)|(with_reducible refine Kd.C_alloc ?_ _)|(with_reducible refine Kd.C_drewN ?_ _)|(with_reducible refine Kd.C_drew ?_)));(case side2=>exact HC0_5.out);rintro e w' ⟨rfl,⟨nd,rfl⟩⟩));go_ret;exact ⟨by first|rfl|(simp [errW_none,errW_some] <;> rfl)|(simp [*,errW_none,errW_some] <;> rfl),by repeat (first|(with_reducible first|exact HB.out|apply zza|apply zzb|apply zzc|refine zzd ?_ GE252.out)|exact HB.out)⟩
  ·
   replace c5:=Bool.eq_false_iff.mpr c5;subst c5;have H1:(some false)=some r:=by rw [if_neg (show ¬ (false=true) by decide)] at H;exact H
   clear H;have H:=H1;clear H1;obtain rfl:=Option.some.inj H;go_enter Try.func58,Try.ntmps58;go_wp2_with (first|((with_reducible refine gate_dst (N:=1) rfl ?_);refine box_event ?hg (N:=1) ?hd (cs:=#[.int .i64 a0_0,.int .i64 a0_1,.bool a0_2,.slice A0_3 l0_3.length c0_3,.bool a0_4,.slice A0_5 l0_5.length c0_5]) (t:=34) ?hr ?_;(case hd=>rfl);(case hg=>rfl);(case hr=>first|(go_simp;done)|(go_simp;rfl));intro gb252 hg w9 hbox hb;have n0_:=zzm (zzp zzh1 hb);have n1_:=zzm (hbox);have n2_:=zzm ((by rw [hg];exact (zzo zzh1):w.heap.size≤gb252));have n3_:=zzm ((by rw [hg];exact (zzo zzh1):w.heap.size≤gb252));clear HB;have HB:=n0_;have BK252:=n1_;have GW252:=n2_;have GE252:=n3_;clear n0_ n1_ n2_ n3_ hb hbox hg;obtain ⟨hcz10_0,hcz10_1,hcz10_2,hcz10_3,hcz10_4,hcz10_5,hfz10_0,hfz10_1,hfz10_2,hfz10_3,hfz10_4,hfz10_5⟩:=zzc6 BK252.out)|((with_reducible refine gate_callee (f:=85) rfl ?_);refine goesL_ (some 7) rfl rfl Try.func85 (by kernel_rfl) rfl #[.int .i64 a0_0,.int .i64 a0_1] rfl zzM2 ?_;(with_reducible refine (impl_baseValid.calls a0_0 a0_1 true _ A2.out).mono ?_);rintro e w' ⟨rfl,⟨nd,rfl⟩⟩;refine ⟨_,rfl,?_⟩)|(go_at_call 86;(with_reducible refine (impl_partValid.calls k a0_2 _ _ l0_3 false _ ?side1 ?side2 A4.out).mono ?_);(case side1=>repeat (first|exact (Kd.C_below HR0_3.out zzh2)|(with_reducible refine Kd.C_alloc ?_ _)|(with_reducible refine Kd.C_drewN ?_ _)|(with_reducible refine Kd.C_drew ?_)));(case side2=>exact HC0_3.out);rintro e w' ⟨rfl,⟨nd,rfl⟩⟩));go_ret;exact ⟨by first|rfl|(simp [errW_none,errW_some] <;> rfl)|(simp [*,errW_none,errW_some] <;> rfl),by repeat (first|(with_reducible first|exact HB.out|apply zza|apply zzb|apply zzc|refine zzd ?_ GE252.out)|exact HB.out)⟩
 ·
  replace c3:=Bool.eq_false_iff.mpr c3;subst c3;have H1:(some false)=some r:=by rw [if_neg (show ¬ (false=true) by decide)] at H;exact H
  clear H;have H:=H1;clear H1;obtain rfl:=Option.some.inj H;go_enter Try.func58,Try.ntmps58;go_wp2_with (first|((with_reducible refine gate_dst (N:=1) rfl ?_);refine box_event ?hg (N:=1) ?hd (cs:=#[.int .i64 a0_0,.int .i64 a0_1,.bool a0_2,.slice A0_3 l0_3.length c0_3,.bool a0_4,.slice A0_5 l0_5.length c0_5]) (t:=34) ?hr ?_;(case hd=>rfl);(case hg=>rfl);(case hr=>first|(go_simp;done)|(go_simp;rfl));intro gb252 hg w11 hbox hb;have n0_:=zzm (zzp zzh1 hb);have n1_:=zzm (hbox);have n2_:=zzm ((by rw [hg];exact (zzo zzh1):w.heap.size≤gb252));have n3_:=zzm ((by rw [hg];exact (zzo zzh1):w.heap.size≤gb252));clear HB;have HB:=n0_;have BK252:=n1_;have GW252:=n2_;have GE252:=n3_;clear n0_ n1_ n2_ n3_ hb hbox hg;obtain ⟨hcz12_0,hcz12_1,hcz12_2,hcz12_3,hcz12_4,hcz12_5,hfz12_0,hfz12_1,hfz12_2,hfz12_3,hfz12_4,hfz12_5⟩:=zzc6 BK252.out)|((with_reducible refine gate_callee (f:=85) rfl ?_);refine goesL_ (some 7) rfl rfl Try.func85 (by kernel_rfl) rfl #[.int .i64 a0_0,.int .i64 a0_1] rfl zzM2 ?_;(with_reducible refine (impl_baseValid.calls a0_0 a0_1 false _ A2.out).mono ?_);rintro e w' ⟨rfl,⟨nd,rfl⟩⟩;refine ⟨_,rfl,?_⟩));go_ret;exact ⟨by first|rfl|(simp [errW_none,errW_some] <;> rfl)|(simp [*,errW_none,errW_some] <;> rfl),by repeat (first|(with_reducible first|exact HB.out|apply zza|apply zzb|apply zzc|refine zzd ?_ GE252.out)|exact HB.out)⟩
mutual
def impl_BatchValid.j0:Nat→Bool→Bool→Int→Int→Int→List (S34)→Option (Bool)
 | 0,_,_,_,_,_,_=>none
 | k+1,x257000,x257001,x257002,x257003,x257004,x257005=>(impl_within.f (x257005.length:Int) 1 6).bind fun t260=>(if t260=true then (if x257001=true then (impl_BatchValid.j1 k ((x257005.length:Int) != 1) x257000 x257001 x257002 x257003 x257004 x257005) else (impl_BatchValid.j1 k false x257000 x257001 x257002 x257003 x257004 x257005)) else (impl_BatchValid.j1 k true x257000 x257001 x257002 x257003 x257004 x257005))
def impl_BatchValid.j1:Nat→Bool→Bool→Bool→Int→Int→Int→List (S34)→Option (Bool)
 | 0,_,_,_,_,_,_,_=>none
 | k+1,x50,x257000,x257001,x257002,x257003,x257004,x257005=>if x50=true then (some false) else (impl_BatchValid.l0 k x257005 (x257005.length:Int) 0 x257000 x257001 x257002 x257003 x257004 x257005)
def impl_BatchValid.l0:Nat→List (S34)→Int→Int→Bool→Bool→Int→Int→Int→List (S34)→Option (Bool)
 | 0,_,_,_,_,_,_,_,_,_=>none
 | k+1,x52,x53,x54,x257000,x257001,x257002,x257003,x257004,x257005=>if x54 < x53 then (if 0≤x54 then (if x54 < (x52.length:Int) then ((impl_RecordValid.f k ((rd_T34 x52 x54).f0) ((rd_T34 x52 x54).f1) ((rd_T34 x52 x54).f2) ((rd_T34 x52 x54).f3) ((rd_T34 x52 x54).f4) ((rd_T34 x52 x54).f5)).bind fun t263=>(if t263=true then (if x54 > 0 then (if 0≤(wrap64 (x54 - 1)) then (if (wrap64 (x54 - 1)) < (x257005.length:Int) then (if ((rd_T34 x257005 (wrap64 (x54 - 1))).f0) ≥ ((rd_T34 x52 x54).f0) then (some false) else (impl_BatchValid.l0 k x52 x53 (wrap64 (x54+1)) x257000 x257001 x257002 x257003 x257004 x257005)) else (none)) else (none)) else (impl_BatchValid.l0 k x52 x53 (wrap64 (x54+1)) x257000 x257001 x257002 x257003 x257004 x257005)) else (some false))) else (none)) else (none)) else (some true)
end
def impl_BatchValid.f (k:Nat) (a0_0:Bool) (a0_1:Bool) (a0_2:Int) (a0_3:Int) (a0_4:Int) (l0_5:List (S34)):Option (Bool):=if a0_2=255 then (if a0_3=0 then (if a0_4=0 then (if a0_1=true then (some false) else (impl_BatchValid.j0 k a0_0 a0_1 a0_2 a0_3 a0_4 l0_5)) else (some false)) else (some false)) else ((impl_idValid.f a0_2).bind fun t257=>(if t257=true then ((impl_within.f a0_3 0 99).bind fun t258=>(if t258=true then ((impl_within.f a0_4 0 9999).bind fun t259=>(if t259=true then (impl_BatchValid.j0 k a0_0 a0_1 a0_2 a0_3 a0_4 l0_5) else (some false))) else (some false))) else (some false)))
def impl_BatchValid.T11:Bool×List (List Nat×List Nat):=(true,[([],[]),([0],[0]),([1],[1]),([2,1],[2]),([3],[3]),([4,3],[3,4]),([5,3,3],[3,5]),([6],[6]),([7,6],[6,7]),([6],[6]),([9,6],[6,9]),([8,10,6],[6,8,10]),([11,6],[6,11]),([12,6],[6,12]),([6],[6]),([14,6],[6,14]),([13,15,6],[6,13,15]),([6,16,3],[3,6,16]),([3,17],[3,17])])
def impl_BatchValid.B11:List Nat:=[0,1,3,7,15,31,63,127,255,127,639,2047,4095,8191,127,16511,65535,131071,262143]
theorem impl_BatchValid.tab11:rtab .any (opsOf Try.f22 11)=impl_BatchValid.T11:=by kernel_rfl
theorem impl_BatchValid.bits11:waitsOk impl_BatchValid.T11.2 impl_BatchValid.B11=true:=by kernel_rfl
set_option maxHeartbeats 8000000 in
set_option maxRecDepth 100000 in
theorem impl_BatchValid.calls (k:Nat) (a0_0:Bool) (a0_1:Bool) (a0_2:Int) (a0_3:Int) (a0_4:Int) (A0_5:Option Addr) (c0_5:Nat) (l0_5:List (S34)) (r:Bool) (w:World) (hr0_5:Kd.C k34 w A0_5 l0_5.length l0_5) (hc0_5:l0_5.length≤c0_5) (h:impl_BatchValid.f k a0_0 a0_1 a0_2 a0_3 a0_4 l0_5=some r) :
  Calls Try.prog 22 #[.agg #[.bool a0_0,.bool a0_1,.int .i64 a0_2,.int .i64 a0_3,.int .i64 a0_4,.slice A0_5 l0_5.length c0_5]] w fun e w'=>e = .returned (.bool r)∧Below w.heap.size w w':=by
 have hu27:=Try.underlying27;have hu34:=Try.underlying34;have HR0_5:=zzm hr0_5;have HC0_5:=zzm hc0_5;clear hr0_5 hc0_5;have HB:=zzm (Below.refl w.heap.size w);have H:(if a0_2=255 then (if a0_3=0 then (if a0_4=0 then (if a0_1=true then (some false) else (impl_BatchValid.j0 k a0_0 a0_1 a0_2 a0_3 a0_4 l0_5)) else (some false)) else (some false)) else ((impl_idValid.f a0_2).bind fun t257=>(if t257=true then ((impl_within.f a0_3 0 99).bind fun t258=>(if t258=true then ((impl_within.f a0_4 0 9999).bind fun t259=>(if t259=true then (impl_BatchValid.j0 k a0_0 a0_1 a0_2 a0_3 a0_4 l0_5) else (some false))) else (some false))) else (some false))))=some r:=h;clear h;have HC2:=zzm H;clear H;go_enter Try.func22,Try.ntmps22;go_upto_if 7 with (first|((with_reducible refine gate_dst (N:=1) rfl ?_);(try (refine gate_guard (by rfl) ?_;dsimp only));refine box_event ?hg (N:=1) ?hd (cs:=#[.bool a0_0,.bool a0_1,.int .i64 a0_2,.int .i64 a0_3,.int .i64 a0_4,.slice A0_5 l0_5.length c0_5]) (t:=27) ?hr ?_;(case hd=>rfl);(case hg=>rfl);(case hr=>first|(go_simp;done)|(go_simp;rfl));intro gb256 hg w3 hbox hb;have n0_:=zzm (zzp zzh1 hb);have n1_:=zzm (hbox);have n2_:=zzm ((by rw [hg];exact (zzo zzh1):w.heap.size≤gb256));have n3_:=zzm ((by rw [hg];exact (zzo zzh1):w.heap.size≤gb256));clear HB;have HB:=n0_;have BK256:=n1_;have GW256:=n2_;have GE256:=n3_;clear n0_ n1_ n2_ n3_ hb hbox hg;obtain ⟨hcz4_0,hcz4_1,hcz4_2,hcz4_3,hcz4_4,hcz4_5,hfz4_0,hfz4_1,hfz4_2,hfz4_3,hfz4_4,hfz4_5⟩:=zzc6 BK256.out));(try simp only [Act.put,zzq,zzr,zzs]);go_cut [] (fun wc=>∃ (kq:Nat),Aside0 (impl_BatchValid.j0 kq a0_0 a0_1 a0_2 a0_3 a0_4 l0_5=some r)∧Aside0 (kq≤k)∧Aside0 (wc.heap[gb256]? = some (.cells #[.bool a0_0,.bool a0_1,.int .i64 a0_2,.int .i64 a0_3,.int .i64 a0_4,(.slice A0_5 l0_5.length c0_5)] 27 (0,0)))∧Aside0 (Below w.heap.size w wc))
 case first=>
  have H:=HC2.out;clear HC2;by_cases c5:a0_2=255
  ·
   rw [if_pos c5] at H;have c5b0:(a0_2==255)=true:=beq_iff_eq.mpr c5;have c5b1:(a0_2 != 255)=false:=bne_eq_false_iff_eq.mpr c5;clear c5;(first|rw [c5b0]|(simp only [i64_w,i32_w];rw [c5b0])|skip);by_cases c6:a0_3=0
   ·
    rw [if_pos c6] at H;have c6b0:(a0_3==0)=true:=beq_iff_eq.mpr c6;have c6b1:(a0_3 != 0)=false:=bne_eq_false_iff_eq.mpr c6;clear c6;by_cases c7:a0_4=0
    ·
     rw [if_pos c7] at H;have c7b0:(a0_4==0)=true:=beq_iff_eq.mpr c7;have c7b1:(a0_4 != 0)=false:=bne_eq_false_iff_eq.mpr c7;clear c7;by_cases c8:a0_1=true
     ·
      subst c8;have H1:(some false)=some r:=by rw [if_pos rfl] at H;exact H
      clear H;have H:=H1;clear H1;obtain rfl:=Option.some.inj H;obtain ⟨hcz9_0,hcz9_1,hcz9_2,hcz9_3,hcz9_4,hcz9_5,hfz9_0,hfz9_1,hfz9_2,hfz9_3,hfz9_4,hfz9_5⟩:=zzc6 BK256.out;go_wp2;go_ret;exact ⟨by first|rfl|(simp [errW_none,errW_some] <;> rfl)|(simp [*,errW_none,errW_some] <;> rfl),by repeat (first|(with_reducible first|exact HB.out|apply zza|apply zzb|apply zzc|refine zzd ?_ GE256.out)|exact HB.out)⟩
     ·
      replace c8:=Bool.eq_false_iff.mpr c8;subst c8;have H1:(impl_BatchValid.j0 k a0_0 false a0_2 a0_3 a0_4 l0_5)=some r:=by rw [if_neg (show ¬ (false=true) by decide)] at H;exact H
      clear H;have H:=H1;clear H1;have H':=zzm H;clear H;obtain ⟨hcz10_0,hcz10_1,hcz10_2,hcz10_3,hcz10_4,hcz10_5,hfz10_0,hfz10_1,hfz10_2,hfz10_3,hfz10_4,hfz10_5⟩:=zzc6 BK256.out;go_wp2;go_meet
      case rel=>exact ⟨_,H',⟨by first|omega|exact Nat.le_refl _⟩,⟨by (with_reducible repeat (first|apply zzf|apply zzg|apply zze));exact BK256.out⟩,⟨by repeat (first|(with_reducible first|exact HB.out|apply zza|apply zzb|apply zzc|refine zzd ?_ GE256.out)|exact HB.out)⟩⟩
    ·
     rw [if_neg c7] at H;have c7b0:(a0_4==0)=false:=beq_eq_false_iff_ne.mpr c7;have c7b1:(a0_4 != 0)=true:=bne_iff_ne.mpr c7;obtain rfl:=Option.some.inj H;obtain ⟨hcz11_0,hcz11_1,hcz11_2,hcz11_3,hcz11_4,hcz11_5,hfz11_0,hfz11_1,hfz11_2,hfz11_3,hfz11_4,hfz11_5⟩:=zzc6 BK256.out;go_wp2;go_ret;exact ⟨by first|rfl|(simp [errW_none,errW_some] <;> rfl)|(simp [*,errW_none,errW_some] <;> rfl),by repeat (first|(with_reducible first|exact HB.out|apply zza|apply zzb|apply zzc|refine zzd ?_ GE256.out)|exact HB.out)⟩
   ·
    rw [if_neg c6] at H;have c6b0:(a0_3==0)=false:=beq_eq_false_iff_ne.mpr c6;have c6b1:(a0_3 != 0)=true:=bne_iff_ne.mpr c6;obtain rfl:=Option.some.inj H;obtain ⟨hcz12_0,hcz12_1,hcz12_2,hcz12_3,hcz12_4,hcz12_5,hfz12_0,hfz12_1,hfz12_2,hfz12_3,hfz12_4,hfz12_5⟩:=zzc6 BK256.out;go_wp2;go_ret;exact ⟨by first|rfl|(simp [errW_none,errW_some] <;> rfl)|(simp [*,errW_none,errW_some] <;> rfl),by repeat (first|(with_reducible first|exact HB.out|apply zza|apply zzb|apply zzc|refine zzd ?_ GE256.out)|exact HB.out)⟩
  ·
   rw [if_neg c5] at H;have c5b0:(a0_2==255)=false:=beq_eq_false_iff_ne.mpr c5;have c5b1:(a0_2 != 255)=true:=bne_iff_ne.mpr c5;(first|rw [c5b0]|(simp only [i64_w,i32_w];rw [c5b0])|skip);replace H:=Option.bind_eq_some_iff.mp H;obtain ⟨t257,A130,H⟩:=H;replace H:(if t257=true then ((impl_within.f a0_3 0 99).bind fun t258=>(if t258=true then ((impl_within.f a0_4 0 9999).bind fun t259=>(if t259=true then (impl_BatchValid.j0 k a0_0 a0_1 a0_2 a0_3 a0_4 l0_5) else (some false))) else (some false))) else (some false))=some r:=H;have A13:=zzm A130;clear A130;by_cases c14:t257=true
   ·
    subst c14;have H1:((impl_within.f a0_3 0 99).bind fun t258=>(if t258=true then ((impl_within.f a0_4 0 9999).bind fun t259=>(if t259=true then (impl_BatchValid.j0 k a0_0 a0_1 a0_2 a0_3 a0_4 l0_5) else (some false))) else (some false)))=some r:=by rw [if_pos rfl] at H;exact H
    clear H;have H:=H1;clear H1;replace H:=Option.bind_eq_some_iff.mp H;obtain ⟨t258,A150,H⟩:=H;replace H:(if t258=true then ((impl_within.f a0_4 0 9999).bind fun t259=>(if t259=true then (impl_BatchValid.j0 k a0_0 a0_1 a0_2 a0_3 a0_4 l0_5) else (some false))) else (some false))=some r:=H;have A15:=zzm A150;clear A150;by_cases c16:t258=true
    ·
     subst c16;have H1:((impl_within.f a0_4 0 9999).bind fun t259=>(if t259=true then (impl_BatchValid.j0 k a0_0 a0_1 a0_2 a0_3 a0_4 l0_5) else (some false)))=some r:=by rw [if_pos rfl] at H;exact H
     clear H;have H:=H1;clear H1;replace H:=Option.bind_eq_some_iff.mp H;obtain ⟨t259,A170,H⟩:=H;replace H:(if t259=true then (impl_BatchValid.j0 k a0_0 a0_1 a0_2 a0_3 a0_4 l0_5) else (some false))=some r:=H;have A17:=zzm A170;clear A170;by_cases c18:t259=true
     ·
      subst c18;have H1:(impl_BatchValid.j0 k a0_0 a0_1 a0_2 a0_3 a0_4 l0_5)=some r:=by rw [if_pos rfl] at H;exact H
      clear H;have H:=H1;clear H1;have H':=zzm H;clear H;obtain ⟨hcz19_0,hcz19_1,hcz19_2,hcz19_3,hcz19_4,hcz19_5,hfz19_0,hfz19_1,hfz19_2,hfz19_3,hfz19_4,hfz19_5⟩:=zzc6 BK256.out;go_wp2_with (first|((with_reducible refine gate_callee (f:=56) rfl ?_);refine goesL_ (some 22) rfl rfl Try.func56 (by kernel_rfl) rfl #[.int .i64 a0_2] rfl zzM2 ?_;(with_reducible refine (impl_idValid.calls a0_2 true _ A13.out).mono ?_);rintro e w' ⟨rfl,⟨nd,rfl⟩⟩;refine ⟨_,rfl,?_⟩)|(go_at_call 57;(with_reducible refine (impl_within.calls a0_3 0 99 true _ A15.out).mono ?_);rintro e w' ⟨rfl,⟨nd,rfl⟩⟩)|(go_at_call 57;(with_reducible refine (impl_within.calls a0_4 0 9999 true _ A17.out).mono ?_);rintro e w' ⟨rfl,⟨nd,rfl⟩⟩));go_meet
      case rel=>exact ⟨_,H',⟨by first|omega|exact Nat.le_refl _⟩,⟨by (with_reducible repeat (first|apply zzf|apply zzg|apply zze));exact BK256.out⟩,⟨by repeat (first|(with_reducible first|exact HB.out|apply zza|apply zzb|apply zzc|refine zzd ?_ GE256.out)|exact HB.out)⟩⟩
     ·
      replace c18:=Bool.eq_false_iff.mpr c18;subst c18;have H1:(some false)=some r:=by rw [if_neg (show ¬ (false=true) by decide)] at H;exact H
      clear H;have H:=H1;clear H1;obtain rfl:=Option.some.inj H;obtain ⟨hcz20_0,hcz20_1,hcz20_2,hcz20_3,hcz20_4,hcz20_5,hfz20_0,hfz20_1,hfz20_2,hfz20_3,hfz20_4,hfz20_5⟩:=zzc6 BK256.out;go_wp2_with (first|((with_reducible refine gate_callee (f:=56) rfl ?_);refine goesL_ (some 22) rfl rfl Try.func56 (by kernel_rfl) rfl #[.int .i64 a0_2] rfl zzM2 ?_;(with_reducible refine (impl_idValid.calls a0_2 true _ A13.out).mono ?_);rintro e w' ⟨rfl,⟨nd,rfl⟩⟩;refine ⟨_,rfl,?_⟩)|(go_at_call 57;(with_reducible refine (impl_within.calls a0_3 0 99 true _ A15.out).mono ?_);rintro e w' ⟨rfl,⟨nd,rfl⟩⟩)|(go_at_call 57;(with_reducible refine (impl_within.calls a0_4 0 9999 false _ A17.out).mono ?_);rintro e w' ⟨rfl,⟨nd,rfl⟩⟩));go_ret;exact ⟨by first|rfl|(simp [errW_none,errW_some] <;> rfl)|(simp [*,errW_none,errW_some] <;> rfl),by repeat (first|(with_reducible first|exact HB.out|apply zza|apply zzb|apply zzc|refine zzd ?_ GE256.out)|exact HB.out)⟩
    ·
     replace c16:=Bool.eq_false_iff.mpr c16;subst c16;have H1:(some false)=some r:=by rw [if_neg (show ¬ (false=true) by decide)] at H;exact H
     clear H;have H:=H1;clear H1;obtain rfl:=Option.some.inj H;obtain ⟨hcz21_0,hcz21_1,hcz21_2,hcz21_3,hcz21_4,hcz21_5,hfz21_0,hfz21_1,hfz21_2,hfz21_3,hfz21_4,hfz21_5⟩:=zzc6 BK256.out;go_wp2_with (first|((with_reducible refine gate_callee (f:=56) rfl ?_);refine goesL_ (some 22) rfl rfl Try.func56 (by kernel_rfl) rfl #[.int .i64 a0_2] rfl zzM2 ?_;(with_reducible refine (impl_idValid.calls a0_2 true _ A13.out).mono ?_);rintro e w' ⟨rfl,⟨nd,rfl⟩⟩;refine ⟨_,rfl,?_⟩)|(go_at_call 57;(with_reducible refine (impl_within.calls a0_3 0 99 false _ A15.out).mono ?_);rintro e w' ⟨rfl,⟨nd,rfl⟩⟩));go_ret;exact ⟨by first|rfl|(simp [errW_none,errW_some] <;> rfl)|(simp [*,errW_none,errW_some] <;> rfl),by repeat (first|(with_reducible first|exact HB.out|apply zza|apply zzb|apply zzc|refine zzd ?_ GE256.out)|exact HB.out)⟩
   ·
    replace c14:=Bool.eq_false_iff.mpr c14;subst c14;have H1:(some false)=some r:=by rw [if_neg (show ¬ (false=true) by decide)] at H;exact H
    clear H;have H:=H1;clear H1;obtain rfl:=Option.some.inj H;obtain ⟨hcz22_0,hcz22_1,hcz22_2,hcz22_3,hcz22_4,hcz22_5,hfz22_0,hfz22_1,hfz22_2,hfz22_3,hfz22_4,hfz22_5⟩:=zzc6 BK256.out;go_wp2_with (first|((with_reducible refine gate_callee (f:=56) rfl ?_);refine goesL_ (some 22) rfl rfl Try.func56 (by kernel_rfl) rfl #[.int .i64 a0_2] rfl zzM2 ?_;(with_reducible refine (impl_idValid.calls a0_2 false _ A13.out).mono ?_);rintro e w' ⟨rfl,⟨nd,rfl⟩⟩;refine ⟨_,rfl,?_⟩));go_ret;exact ⟨by first|rfl|(simp [errW_none,errW_some] <;> rfl)|(simp [*,errW_none,errW_some] <;> rfl),by repeat (first|(with_reducible first|exact HB.out|apply zza|apply zzb|apply zzc|refine zzd ?_ GE256.out)|exact HB.out)⟩
 case rest=>
  clear HC2;try clear c1
  try clear c2
  try clear p2
  try clear c5
  try clear c5b0
  try clear c5b1
  try clear c6
  try clear c6b0
  try clear c6b1
  try clear c7
  try clear c7b0
  try clear c7b1
  try clear c8
  try clear c14
  try clear c16
  try clear c18
  try clear c22
  try clear hcz10_0
  try clear hcz10_1
  try clear hcz10_2
  try clear hcz10_3
  try clear hcz10_4
  try clear hcz10_5
  try clear hcz11_0
  try clear hcz11_1
  try clear hcz11_2
  try clear hcz11_3
  try clear hcz11_4
  try clear hcz11_5
  try clear hcz12_0
  try clear hcz12_1
  try clear hcz12_2
  try clear hcz12_3
  try clear hcz12_4
  try clear hcz12_5
  try clear hcz19_0
  try clear hcz19_1
  try clear hcz19_2
  try clear hcz19_3
  try clear hcz19_4
  try clear hcz19_5
  try clear hcz20_0
  try clear hcz20_1
  try clear hcz20_2
  try clear hcz20_3
  try clear hcz20_4
  try clear hcz20_5
  try clear hcz21_0
  try clear hcz21_1
  try clear hcz21_2
  try clear hcz21_3
  try clear hcz21_4
  try clear hcz21_5
  try clear hcz22_0
  try clear hcz22_1
  try clear hcz22_2
  try clear hcz22_3
  try clear hcz22_4
  try clear hcz22_5
  try clear hcz4_0
  try clear hcz4_1
  try clear hcz4_2
  try clear hcz4_3
  try clear hcz4_4
  try clear hcz4_5
  try clear hcz9_0
  try clear hcz9_1
  try clear hcz9_2
  try clear hcz9_3
  try clear hcz9_4
  try clear hcz9_5
  try clear hfz10_0
  try clear hfz10_1
  try clear hfz10_2
  try clear hfz10_3
  try clear hfz10_4
  try clear hfz10_5
  try clear hfz11_0
  try clear hfz11_1
  try clear hfz11_2
  try clear hfz11_3
  try clear hfz11_4
  try clear hfz11_5
  try clear hfz12_0
  try clear hfz12_1
  try clear hfz12_2
  try clear hfz12_3
  try clear hfz12_4
  try clear hfz12_5
  try clear hfz19_0
  try clear hfz19_1
  try clear hfz19_2
  try clear hfz19_3
  try clear hfz19_4
  try clear hfz19_5
  try clear hfz20_0
  try clear hfz20_1
  try clear hfz20_2
  try clear hfz20_3
  try clear hfz20_4
  try clear hfz20_5
  try clear hfz21_0
  try clear hfz21_1
  try clear hfz21_2
  try clear hfz21_3
  try clear hfz21_4
  try clear hfz21_5
  try clear hfz22_0
  try clear hfz22_1
  try clear hfz22_2
  try clear hfz22_3
  try clear hfz22_4
  try clear hfz22_5
  try clear hfz4_0
  try clear hfz4_1
  try clear hfz4_2
  try clear hfz4_3
  try clear hfz4_4
  try clear hfz4_5
  try clear hfz9_0
  try clear hfz9_1
  try clear hfz9_2
  try clear hfz9_3
  try clear hfz9_4
  try clear hfz9_5
  obtain ⟨kq,HA,HJ1,BK256,HB⟩:=hcut;cases kq with
  | zero=>exact absurd HA.out (by simp [impl_BatchValid.j0])
  | succ kj1=>
   have H:=HA.out;clear HA;simp only [impl_BatchValid.j0] at H;have HC23:=zzm H;clear H;go_upto_region 6 with (fail);go_cut [50] (fun v50 wc=>∃ (kq:Nat) (x50_22:Bool),v50 = .bool x50_22∧Aside0 (impl_BatchValid.j1 kq x50_22 a0_0 a0_1 a0_2 a0_3 a0_4 l0_5=some r)∧Aside0 (kq≤kj1)∧Aside0 (wc.heap[gb256]? = some (.cells #[.bool a0_0,.bool a0_1,.int .i64 a0_2,.int .i64 a0_3,.int .i64 a0_4,(.slice A0_5 l0_5.length c0_5)] 27 (0,0)))∧Aside0 (Below w.heap.size w wc))
   case first=>
    have H:=HC23.out;clear HC23;replace H:=Option.bind_eq_some_iff.mp H;obtain ⟨t260,A240,H⟩:=H;replace H:(if t260=true then (if a0_1=true then (impl_BatchValid.j1 kj1 ((l0_5.length:Int) != 1) a0_0 a0_1 a0_2 a0_3 a0_4 l0_5) else (impl_BatchValid.j1 kj1 false a0_0 a0_1 a0_2 a0_3 a0_4 l0_5)) else (impl_BatchValid.j1 kj1 true a0_0 a0_1 a0_2 a0_3 a0_4 l0_5))=some r:=H;have A24:=zzm A240;clear A240;by_cases c25:t260=true
    ·
     subst c25;have H1:(if a0_1=true then (impl_BatchValid.j1 kj1 ((l0_5.length:Int) != 1) a0_0 a0_1 a0_2 a0_3 a0_4 l0_5) else (impl_BatchValid.j1 kj1 false a0_0 a0_1 a0_2 a0_3 a0_4 l0_5))=some r:=by rw [if_pos rfl] at H;exact H
     clear H;have H:=H1;clear H1;by_cases c26:a0_1=true
     ·
      subst c26;have H1:(impl_BatchValid.j1 kj1 ((l0_5.length:Int) != 1) a0_0 true a0_2 a0_3 a0_4 l0_5)=some r:=by rw [if_pos rfl] at H;exact H
      clear H;have H:=H1;clear H1;have H':=zzm H;clear H;obtain ⟨hcz27_0,hcz27_1,hcz27_2,hcz27_3,hcz27_4,hcz27_5,hfz27_0,hfz27_1,hfz27_2,hfz27_3,hfz27_4,hfz27_5⟩:=zzc6 BK256.out;go_wp2_with (first|((with_reducible refine gate_callee (f:=57) rfl ?_);refine goesL_ (some 39) rfl rfl Try.func57 (by kernel_rfl) rfl #[.int .i64 (l0_5.length:Int),.int .i64 1,.int .i64 6] rfl zzM2 ?_;(with_reducible refine (impl_within.calls (l0_5.length:Int) 1 6 true _ A24.out).mono ?_);rintro e w' ⟨rfl,⟨nd,rfl⟩⟩;refine ⟨_,rfl,?_⟩));go_meet
      case rel=>exact ⟨_,(((l0_5.length:Int) != 1)),(by first|rfl|(simp;done)|(simp [*];done)),H',⟨by have:=HJ1.out;first|omega|exact Nat.le_refl _⟩,⟨by (with_reducible repeat (first|apply zzf|apply zzg|apply zze));exact BK256.out⟩,⟨by repeat (first|(with_reducible first|exact HB.out|apply zza|apply zzb|apply zzc|refine zzd ?_ GE256.out)|exact HB.out)⟩⟩
     ·
      replace c26:=Bool.eq_false_iff.mpr c26;subst c26;have H1:(impl_BatchValid.j1 kj1 false a0_0 false a0_2 a0_3 a0_4 l0_5)=some r:=by rw [if_neg (show ¬ (false=true) by decide)] at H;exact H
      clear H;have H:=H1;clear H1;have H':=zzm H;clear H;obtain ⟨hcz28_0,hcz28_1,hcz28_2,hcz28_3,hcz28_4,hcz28_5,hfz28_0,hfz28_1,hfz28_2,hfz28_3,hfz28_4,hfz28_5⟩:=zzc6 BK256.out;go_wp2_with (first|((with_reducible refine gate_callee (f:=57) rfl ?_);refine goesL_ (some 39) rfl rfl Try.func57 (by kernel_rfl) rfl #[.int .i64 (l0_5.length:Int),.int .i64 1,.int .i64 6] rfl zzM2 ?_;(with_reducible refine (impl_within.calls (l0_5.length:Int) 1 6 true _ A24.out).mono ?_);rintro e w' ⟨rfl,⟨nd,rfl⟩⟩;refine ⟨_,rfl,?_⟩));go_meet
      case rel=>exact ⟨_,(false),(by first|rfl|(simp;done)|(simp [*];done)),H',⟨by have:=HJ1.out;first|omega|exact Nat.le_refl _⟩,⟨by (with_reducible repeat (first|apply zzf|apply zzg|apply zze));exact BK256.out⟩,⟨by repeat (first|(with_reducible first|exact HB.out|apply zza|apply zzb|apply zzc|refine zzd ?_ GE256.out)|exact HB.out)⟩⟩
    ·
     replace c25:=Bool.eq_false_iff.mpr c25;subst c25;have H1:(impl_BatchValid.j1 kj1 true a0_0 a0_1 a0_2 a0_3 a0_4 l0_5)=some r:=by rw [if_neg (show ¬ (false=true) by decide)] at H;exact H
     clear H;have H:=H1;clear H1;have H':=zzm H;clear H;obtain ⟨hcz29_0,hcz29_1,hcz29_2,hcz29_3,hcz29_4,hcz29_5,hfz29_0,hfz29_1,hfz29_2,hfz29_3,hfz29_4,hfz29_5⟩:=zzc6 BK256.out;go_wp2_with (first|((with_reducible refine gate_callee (f:=57) rfl ?_);refine goesL_ (some 39) rfl rfl Try.func57 (by kernel_rfl) rfl #[.int .i64 (l0_5.length:Int),.int .i64 1,.int .i64 6] rfl zzM2 ?_;(with_reducible refine (impl_within.calls (l0_5.length:Int) 1 6 false _ A24.out).mono ?_);rintro e w' ⟨rfl,⟨nd,rfl⟩⟩;refine ⟨_,rfl,?_⟩));go_meet
     case rel=>exact ⟨_,(true),(by first|rfl|(simp;done)|(simp [*];done)),H',⟨by have:=HJ1.out;first|omega|exact Nat.le_refl _⟩,⟨by (with_reducible repeat (first|apply zzf|apply zzg|apply zze));exact BK256.out⟩,⟨by repeat (first|(with_reducible first|exact HB.out|apply zza|apply zzb|apply zzc|refine zzd ?_ GE256.out)|exact HB.out)⟩⟩
   case rest=>
    clear HC23;try clear c1
    try clear c2
    try clear p2
    try clear c5
    try clear c5b0
    try clear c5b1
    try clear c6
    try clear c6b0
    try clear c6b1
    try clear c7
    try clear c7b0
    try clear c7b1
    try clear c8
    try clear c14
    try clear c16
    try clear c18
    try clear c22
    try clear c25
    try clear c26
    try clear hcz10_0
    try clear hcz10_1
    try clear hcz10_2
    try clear hcz10_3
    try clear hcz10_4
    try clear hcz10_5
    try clear hcz11_0
    try clear hcz11_1
    try clear hcz11_2
    try clear hcz11_3
    try clear hcz11_4
    try clear hcz11_5
    try clear hcz12_0
    try clear hcz12_1
    try clear hcz12_2
    try clear hcz12_3
    try clear hcz12_4
    try clear hcz12_5
    try clear hcz19_0
    try clear hcz19_1
    try clear hcz19_2
    try clear hcz19_3
    try clear hcz19_4
    try clear hcz19_5
    try clear hcz20_0
    try clear hcz20_1
    try clear hcz20_2
    try clear hcz20_3
    try clear hcz20_4
    try clear hcz20_5
    try clear hcz21_0
    try clear hcz21_1
    try clear hcz21_2
    try clear hcz21_3
    try clear hcz21_4
    try clear hcz21_5
    try clear hcz22_0
    try clear hcz22_1
    try clear hcz22_2
    try clear hcz22_3
    try clear hcz22_4
    try clear hcz22_5
    try clear hcz27_0
    try clear hcz27_1
    try clear hcz27_2
    try clear hcz27_3
    try clear hcz27_4
    try clear hcz27_5
    try clear hcz28_0
    try clear hcz28_1
    try clear hcz28_2
    try clear hcz28_3
    try clear hcz28_4
    try clear hcz28_5
    try clear hcz29_0
    try clear hcz29_1
    try clear hcz29_2
    try clear hcz29_3
    try clear hcz29_4
    try clear hcz29_5
    try clear hcz4_0
    try clear hcz4_1
    try clear hcz4_2
    try clear hcz4_3
    try clear hcz4_4
    try clear hcz4_5
    try clear hcz9_0
    try clear hcz9_1
    try clear hcz9_2
    try clear hcz9_3
    try clear hcz9_4
    try clear hcz9_5
    try clear hfz10_0
    try clear hfz10_1
    try clear hfz10_2
    try clear hfz10_3
    try clear hfz10_4
    try clear hfz10_5
    try clear hfz11_0
    try clear hfz11_1
    try clear hfz11_2
    try clear hfz11_3
    try clear hfz11_4
    try clear hfz11_5
    try clear hfz12_0
    try clear hfz12_1
    try clear hfz12_2
    try clear hfz12_3
    try clear hfz12_4
    try clear hfz12_5
    try clear hfz19_0
    try clear hfz19_1
    try clear hfz19_2
    try clear hfz19_3
    try clear hfz19_4
    try clear hfz19_5
    try clear hfz20_0
    try clear hfz20_1
    try clear hfz20_2
    try clear hfz20_3
    try clear hfz20_4
    try clear hfz20_5
    try clear hfz21_0
    try clear hfz21_1
    try clear hfz21_2
    try clear hfz21_3
    try clear hfz21_4
    try clear hfz21_5
    try clear hfz22_0
    try clear hfz22_1
    try clear hfz22_2
    try clear hfz22_3
    try clear hfz22_4
    try clear hfz22_5
    try clear hfz27_0
    try clear hfz27_1
    try clear hfz27_2
    try clear hfz27_3
    try clear hfz27_4
    try clear hfz27_5
    try clear hfz28_0
    try clear hfz28_1
    try clear hfz28_2
    try clear hfz28_3
    try clear hfz28_4
    try clear hfz28_5
    try clear hfz29_0
    try clear hfz29_1
    try clear hfz29_2
    try clear hfz29_3
    try clear hfz29_4
    try clear hfz29_5
    try clear hfz4_0
    try clear hfz4_1
    try clear hfz4_2
    try clear hfz4_3
    try clear hfz4_4
    try clear hfz4_5
    try clear hfz9_0
    try clear hfz9_1
    try clear hfz9_2
    try clear hfz9_3
    try clear hfz9_4
    try clear hfz9_5
    try clear p2
    obtain ⟨kq,x50_22,rfl,HA,HJ22,BK256,HB⟩:=hcut;cases kq with
    | zero=>exact absurd HA.out (by simp [impl_BatchValid.j1])
    | succ kj22=>
     have H:=HA.out;clear HA;simp only [impl_BatchValid.j1] at H;by_cases c30:x50_22=true
     ·
      subst c30;have H1:(some false)=some r:=by rw [if_pos rfl] at H;exact H
      clear H;have H:=H1;clear H1;obtain rfl:=Option.some.inj H;go_wp2;go_ret;exact ⟨by first|rfl|(simp [errW_none,errW_some] <;> rfl)|(simp [*,errW_none,errW_some] <;> rfl),by repeat (first|(with_reducible first|exact HB.out|apply zza|apply zzb|apply zzc|refine zzd ?_ GE256.out)|exact HB.out)⟩
     ·
      replace c30:=Bool.eq_false_iff.mpr c30;subst c30;have H1:(impl_BatchValid.l0 kj22 l0_5 (l0_5.length:Int) 0 a0_0 a0_1 a0_2 a0_3 a0_4 l0_5)=some r:=by rw [if_neg (show ¬ (false=true) by decide)] at H;exact H
      clear H;have H:=H1;clear H1;have H':=zzm H;clear H;obtain ⟨hcz31_0,hcz31_1,hcz31_2,hcz31_3,hcz31_4,hcz31_5,hfz31_0,hfz31_1,hfz31_2,hfz31_3,hfz31_4,hfz31_5⟩:=zzc6 BK256.out;go_wp2;go_loopg [54] kj22 (fun kq v54 w'=>∃ (x54_3:Int),v54 = .int .i64 x54_3∧Aside0 (impl_BatchValid.l0 kq l0_5 (l0_5.length:Int) x54_3 a0_0 a0_1 a0_2 a0_3 a0_4 l0_5=some r)∧Aside0 (kq≤kj22)∧Aside0 (w'.heap[gb256]? = some (.cells #[.bool a0_0,.bool a0_1,.int .i64 a0_2,.int .i64 a0_3,.int .i64 a0_4,(.slice A0_5 l0_5.length c0_5)] 27 (0,0)))∧Aside0 (Below w.heap.size w w'))
      case atStart=>exact ⟨(0),(by first|rfl|(simp;done)|(simp [*];done)),H',⟨Nat.le_refl _⟩,⟨by (with_reducible repeat (first|apply zzf|apply zzg|apply zze));exact BK256.out⟩,⟨by repeat (first|(with_reducible first|exact HB.out|apply zza|apply zzb|apply zzc|refine zzd ?_ GE256.out)|exact HB.out)⟩⟩
      case round=>
       clear H';try clear c1
       try clear c2
       try clear p2
       try clear c3
       try clear c5
       try clear c5b0
       try clear c5b1
       try clear c6
       try clear c6b0
       try clear c6b1
       try clear c7
       try clear c7b0
       try clear c7b1
       try clear c8
       try clear c14
       try clear c16
       try clear c18
       try clear c22
       try clear c25
       try clear c26
       try clear c30
       try clear hcz10_0
       try clear hcz10_1
       try clear hcz10_2
       try clear hcz10_3
       try clear hcz10_4
       try clear hcz10_5
       try clear hcz11_0
       try clear hcz11_1
       try clear hcz11_2
       try clear hcz11_3
       try clear hcz11_4
       try clear hcz11_5
       try clear hcz12_0
       try clear hcz12_1
       try clear hcz12_2
       try clear hcz12_3
       try clear hcz12_4
       try clear hcz12_5
       try clear hcz19_0
       try clear hcz19_1
       try clear hcz19_2
       try clear hcz19_3
       try clear hcz19_4
       try clear hcz19_5
       try clear hcz20_0
       try clear hcz20_1
       try clear hcz20_2
       try clear hcz20_3
       try clear hcz20_4
       try clear hcz20_5
       try clear hcz21_0
       try clear hcz21_1
       try clear hcz21_2
       try clear hcz21_3
       try clear hcz21_4
       try clear hcz21_5
       try clear hcz22_0
       try clear hcz22_1
       try clear hcz22_2
       try clear hcz22_3
       try clear hcz22_4
       try clear hcz22_5
       try clear hcz27_0
       try clear hcz27_1
       try clear hcz27_2
       try clear hcz27_3
       try clear hcz27_4
       try clear hcz27_5
       try clear hcz28_0
       try clear hcz28_1
       try clear hcz28_2
       try clear hcz28_3
       try clear hcz28_4
       try clear hcz28_5
       try clear hcz29_0
       try clear hcz29_1
       try clear hcz29_2
       try clear hcz29_3
       try clear hcz29_4
       try clear hcz29_5
       try clear hcz31_0
       try clear hcz31_1
       try clear hcz31_2
       try clear hcz31_3
       try clear hcz31_4
       try clear hcz31_5
       try clear hcz4_0
       try clear hcz4_1
       try clear hcz4_2
       try clear hcz4_3
       try clear hcz4_4
       try clear hcz4_5
       try clear hcz9_0
       try clear hcz9_1
       try clear hcz9_2
       try clear hcz9_3
       try clear hcz9_4
       try clear hcz9_5
       try clear hfz10_0
       try clear hfz10_1
       try clear hfz10_2
       try clear hfz10_3
       try clear hfz10_4
       try clear hfz10_5
       try clear hfz11_0
       try clear hfz11_1
       try clear hfz11_2
       try clear hfz11_3
       try clear hfz11_4
       try clear hfz11_5
       try clear hfz12_0
       try clear hfz12_1
       try clear hfz12_2
       try clear hfz12_3
       try clear hfz12_4
       try clear hfz12_5
       try clear hfz19_0
       try clear hfz19_1
       try clear hfz19_2
       try clear hfz19_3
       try clear hfz19_4
       try clear hfz19_5
       try clear hfz20_0
       try clear hfz20_1
       try clear hfz20_2
       try clear hfz20_3
       try clear hfz20_4
       try clear hfz20_5
       try clear hfz21_0
       try clear hfz21_1
       try clear hfz21_2
       try clear hfz21_3
       try clear hfz21_4
       try clear hfz21_5
       try clear hfz22_0
       try clear hfz22_1
       try clear hfz22_2
       try clear hfz22_3
       try clear hfz22_4
       try clear hfz22_5
       try clear hfz27_0
       try clear hfz27_1
       try clear hfz27_2
       try clear hfz27_3
       try clear hfz27_4
       try clear hfz27_5
       try clear hfz28_0
       try clear hfz28_1
       try clear hfz28_2
       try clear hfz28_3
       try clear hfz28_4
       try clear hfz28_5
       try clear hfz29_0
       try clear hfz29_1
       try clear hfz29_2
       try clear hfz29_3
       try clear hfz29_4
       try clear hfz29_5
       try clear hfz31_0
       try clear hfz31_1
       try clear hfz31_2
       try clear hfz31_3
       try clear hfz31_4
       try clear hfz31_5
       try clear hfz4_0
       try clear hfz4_1
       try clear hfz4_2
       try clear hfz4_3
       try clear hfz4_4
       try clear hfz4_5
       try clear hfz9_0
       try clear hfz9_1
       try clear hfz9_2
       try clear hfz9_3
       try clear hfz9_4
       try clear hfz9_5
       try clear p2
       obtain ⟨x54_3,rfl,HA,HK3,BK256,HB⟩:=hrel;cases gk with
       | zero=>exact absurd HA.out (by simp [impl_BatchValid.l0])
       | succ k3=>
        have H:=HA.out;clear HA;simp only [impl_BatchValid.l0] at H;by_cases c32:x54_3 < (l0_5.length:Int)
        ·
         rw [if_pos c32] at H;have c32b0:decide (x54_3 < (l0_5.length:Int))=true:=decide_eq_true c32;clear c32;by_cases c33 : 0≤x54_3
         ·
          rw [if_pos c33] at H;have c33b0:decide (0≤x54_3)=true:=decide_eq_true c33;clear c33;by_cases c34:x54_3 < (l0_5.length:Int)
          ·
           rw [if_pos c34] at H;have c34b0:decide (x54_3 < (l0_5.length:Int))=true:=decide_eq_true c34;clear c34;replace H:=Option.bind_eq_some_iff.mp H;obtain ⟨t263,A350,H⟩:=H;replace H:(if t263=true then (if x54_3 > 0 then (if 0≤(wrap64 (x54_3 - 1)) then (if (wrap64 (x54_3 - 1)) < (l0_5.length:Int) then (if ((rd_T34 l0_5 (wrap64 (x54_3 - 1))).f0) ≥ ((rd_T34 l0_5 x54_3).f0) then (some false) else (impl_BatchValid.l0 k3 l0_5 (l0_5.length:Int) (wrap64 (x54_3+1)) a0_0 a0_1 a0_2 a0_3 a0_4 l0_5)) else (none)) else (none)) else (impl_BatchValid.l0 k3 l0_5 (l0_5.length:Int) (wrap64 (x54_3+1)) a0_0 a0_1 a0_2 a0_3 a0_4 l0_5)) else (some false))=some r:=H;have A35:=zzm A350;clear A350;by_cases c36:t263=true
           ·
            subst c36;have H1:(if x54_3 > 0 then (if 0≤(wrap64 (x54_3 - 1)) then (if (wrap64 (x54_3 - 1)) < (l0_5.length:Int) then (if ((rd_T34 l0_5 (wrap64 (x54_3 - 1))).f0) ≥ ((rd_T34 l0_5 x54_3).f0) then (some false) else (impl_BatchValid.l0 k3 l0_5 (l0_5.length:Int) (wrap64 (x54_3+1)) a0_0 a0_1 a0_2 a0_3 a0_4 l0_5)) else (none)) else (none)) else (impl_BatchValid.l0 k3 l0_5 (l0_5.length:Int) (wrap64 (x54_3+1)) a0_0 a0_1 a0_2 a0_3 a0_4 l0_5))=some r:=by rw [if_pos rfl] at H;exact H
            clear H;have H:=H1;clear H1;by_cases c37:x54_3 > 0
            ·
             rw [if_pos c37] at H;have c37b0:decide (0 < x54_3)=true:=decide_eq_true c37;clear c37;obtain ⟨ji38,hji38⟩:∃ j_:Int,(wrap64 (x54_3 - 1))=j_:=⟨_,rfl⟩;replace H:(if 0≤(ji38) then (if (ji38) < (l0_5.length:Int) then (if ((rd_T34 l0_5 (ji38)).f0) ≥ ((rd_T34 l0_5 x54_3).f0) then (some false) else (impl_BatchValid.l0 k3 l0_5 (l0_5.length:Int) (wrap64 (x54_3+1)) a0_0 a0_1 a0_2 a0_3 a0_4 l0_5)) else (none)) else (none))=some r:=by first|(rw [hji38] at H;exact H)|(simp only [hji38] at H ⊢;exact H)
             (try rw [hji38] at A35);have hji38w:(IntKind.i64.wrap (x54_3 - 1))=ji38:=(i64_w _).trans hji38;by_cases c39 : 0≤(ji38)
             ·
              rw [if_pos c39] at H;have c39b0:decide (0≤(ji38))=true:=decide_eq_true c39;clear c39;by_cases c40:(ji38) < (l0_5.length:Int)
              ·
               rw [if_pos c40] at H;have c40b0:decide ((ji38) < (l0_5.length:Int))=true:=decide_eq_true c40;clear c40;by_cases c41:((rd_T34 l0_5 (ji38)).f0) ≥ ((rd_T34 l0_5 x54_3).f0)
               ·
                rw [if_pos c41] at H;have c41b0:decide (((rd_T34 l0_5 x54_3).f0)≤((rd_T34 l0_5 (ji38)).f0))=true:=decide_eq_true c41;clear c41;obtain rfl:=Option.some.inj H;have p261 : 0≤(x54_3:Int):=zzt;have q261:x54_3 < (l0_5.length:Int):=zzt;obtain ⟨ad261,A261_3,c261_3,A261_5,c261_5,e261,hx261_0,hx261_1,hx261_2,hx261_3,hx261_4,hx261_5,hl261_3,hi261_3,hl261_5,hi261_5⟩:=at_T34 HR0_5.out x54_3 p261 q261;cases e261;replace hx261_0:=zzx HB.out hx261_0;replace hx261_1:=zzx HB.out hx261_1;replace hx261_2:=zzx HB.out hx261_2;replace hx261_3:=zzx HB.out hx261_3;replace hx261_4:=zzx HB.out hx261_4;replace hx261_5:=zzx HB.out hx261_5;have HR261_3:=zzm hi261_3;have HC261_3:=zzm hl261_3;clear hi261_3 hl261_3;have HR261_5:=zzm hi261_5;have HC261_5:=zzm hl261_5;clear hi261_5 hl261_5;replace p261:=eq_true p261;replace q261:=eq_true q261;try go_wp2_with (first|((with_reducible refine gate_dst (N:=4) rfl ?_);(try (refine gate_guard (by rfl) ?_;dsimp only));refine box_event ?hg (N:=4) ?hd (cs:=#[.int .i64 0,.int .i64 0,.bool false,.slice none 0 0,.bool false,.slice none 0 0]) (t:=34) ?hr ?_;(case hd=>rfl);(case hg=>rfl);(case hr=>first|(go_simp;done)|(go_simp;rfl));intro gb262 hg w42 hbox hb;have n0_:=zzm (zzh (g:=gb256) (o:=.cells #[.bool a0_0,.bool a0_1,.int .i64 a0_2,.int .i64 a0_3,.int .i64 a0_4,.slice (some ad261) l0_5.length c0_5] 27 (0,0)) (zzE BK256.out) hb);have n1_:=zzm (zzp zzh2 hb);have n2_:=zzm (hbox);have n3_:=zzm ((by rw [hg];exact (zzo zzh2):w.heap.size≤gb262));have n4_:=zzm ((by rw [hg];exact (zzo zzh2):w.heap.size≤gb262));have n5_:=zzm ((by rw [hg];exact Nat.ne_of_lt (blk_lt (g:=gb256) (o:=.cells #[.bool a0_0,.bool a0_1,.int .i64 a0_2,.int .i64 a0_3,.int .i64 a0_4,.slice (some ad261) l0_5.length c0_5] 27 (0,0)) (zzE BK256.out)):gb256≠gb262));have n6_:=zzm ((by rw [hg];exact Nat.ne_of_gt (blk_lt (g:=gb256) (o:=.cells #[.bool a0_0,.bool a0_1,.int .i64 a0_2,.int .i64 a0_3,.int .i64 a0_4,.slice (some ad261) l0_5.length c0_5] 27 (0,0)) (zzE BK256.out)):gb262≠gb256));clear BK256 HB;have BK256:=n0_;have HB:=n1_;have BK262:=n2_;have GW262:=n3_;have GE262:=n4_;have NB256_262:=n5_;have NB262_256:=n6_;clear n0_ n1_ n2_ n3_ n4_ n5_ n6_ hb hbox hg;have hnb43:=NB262_256.out;have hnc43:=NB256_262.out;obtain ⟨hcz44_0,hcz44_1,hcz44_2,hcz44_3,hcz44_4,hcz44_5,hfz44_0,hfz44_1,hfz44_2,hfz44_3,hfz44_4,hfz44_5⟩:=zzc6 BK262.out))
                have n0_:Aside0 (((((((w42.setCell ⟨gb262,0,none⟩ (.int .i64 ((rd_T34 l0_5 x54_3).f0))).setCell ⟨gb262,1,none⟩ (.int .i64 ((rd_T34 l0_5 x54_3).f1))).setCell ⟨gb262,2,none⟩ (.bool ((rd_T34 l0_5 x54_3).f2))).setCell ⟨gb262,3,none⟩ (.slice A261_3 ((rd_T34 l0_5 x54_3).f3).length c261_3)).setCell ⟨gb262,4,none⟩ (.bool ((rd_T34 l0_5 x54_3).f4))).setCell ⟨gb262,5,none⟩ (.slice A261_5 ((rd_T34 l0_5 x54_3).f5).length c261_5)).heap[gb256]? = some (.cells #[.bool a0_0,.bool a0_1,.int .i64 a0_2,.int .i64 a0_3,.int .i64 a0_4,.slice (some ad261) l0_5.length c0_5] 27 (0,0))):=⟨by (with_reducible repeat (first|apply zzf|apply zzg|apply zze));refine zzj ?_ NB256_262.out _;(with_reducible repeat (first|apply zzf|apply zzg|apply zze));refine zzj ?_ NB256_262.out _;(with_reducible repeat (first|apply zzf|apply zzg|apply zze));refine zzj ?_ NB256_262.out _;(with_reducible repeat (first|apply zzf|apply zzg|apply zze));refine zzj ?_ NB256_262.out _;(with_reducible repeat (first|apply zzf|apply zzg|apply zze));refine zzj ?_ NB256_262.out _;(with_reducible repeat (first|apply zzf|apply zzg|apply zze));refine zzj ?_ NB256_262.out _;(with_reducible repeat (first|apply zzf|apply zzg|apply zze));exact BK256.out⟩;have n1_:Aside0 (((((((w42.setCell ⟨gb262,0,none⟩ (.int .i64 ((rd_T34 l0_5 x54_3).f0))).setCell ⟨gb262,1,none⟩ (.int .i64 ((rd_T34 l0_5 x54_3).f1))).setCell ⟨gb262,2,none⟩ (.bool ((rd_T34 l0_5 x54_3).f2))).setCell ⟨gb262,3,none⟩ (.slice A261_3 ((rd_T34 l0_5 x54_3).f3).length c261_3)).setCell ⟨gb262,4,none⟩ (.bool ((rd_T34 l0_5 x54_3).f4))).setCell ⟨gb262,5,none⟩ (.slice A261_5 ((rd_T34 l0_5 x54_3).f5).length c261_5)).heap[gb262]? = some (.cells #[.int .i64 ((rd_T34 l0_5 x54_3).f0),.int .i64 ((rd_T34 l0_5 x54_3).f1),.bool ((rd_T34 l0_5 x54_3).f2),.slice A261_3 ((rd_T34 l0_5 x54_3).f3).length c261_3,.bool ((rd_T34 l0_5 x54_3).f4),.slice A261_5 ((rd_T34 l0_5 x54_3).f5).length c261_5] 34 (0,0))):=⟨by (with_reducible repeat (first|apply zzf|apply zzg|apply zze));refine zzi (cs:=#[.int .i64 ((rd_T34 l0_5 x54_3).f0),.int .i64 ((rd_T34 l0_5 x54_3).f1),.bool ((rd_T34 l0_5 x54_3).f2),.slice A261_3 ((rd_T34 l0_5 x54_3).f3).length c261_3,.bool ((rd_T34 l0_5 x54_3).f4),.slice none 0 0]) ?_ 5 _ rfl;(with_reducible repeat (first|apply zzf|apply zzg|apply zze));refine zzi (cs:=#[.int .i64 ((rd_T34 l0_5 x54_3).f0),.int .i64 ((rd_T34 l0_5 x54_3).f1),.bool ((rd_T34 l0_5 x54_3).f2),.slice A261_3 ((rd_T34 l0_5 x54_3).f3).length c261_3,.bool false,.slice none 0 0]) ?_ 4 _ rfl;(with_reducible repeat (first|apply zzf|apply zzg|apply zze));refine zzi (cs:=#[.int .i64 ((rd_T34 l0_5 x54_3).f0),.int .i64 ((rd_T34 l0_5 x54_3).f1),.bool ((rd_T34 l0_5 x54_3).f2),.slice none 0 0,.bool false,.slice none 0 0]) ?_ 3 _ rfl;(with_reducible repeat (first|apply zzf|apply zzg|apply zze));refine zzi (cs:=#[.int .i64 ((rd_T34 l0_5 x54_3).f0),.int .i64 ((rd_T34 l0_5 x54_3).f1),.bool false,.slice none 0 0,.bool false,.slice none 0 0]) ?_ 2 _ rfl;(with_reducible repeat (first|apply zzf|apply zzg|apply zze));refine zzi (cs:=#[.int .i64 ((rd_T34 l0_5 x54_3).f0),.int .i64 0,.bool false,.slice none 0 0,.bool false,.slice none 0 0]) ?_ 1 _ rfl;(with_reducible repeat (first|apply zzf|apply zzg|apply zze));refine zzi (cs:=#[.int .i64 0,.int .i64 0,.bool false,.slice none 0 0,.bool false,.slice none 0 0]) ?_ 0 _ rfl;(with_reducible repeat (first|apply zzf|apply zzg|apply zze));exact BK262.out⟩;have n2_:Aside0 (Below w.heap.size w ((((((w42.setCell ⟨gb262,0,none⟩ (.int .i64 ((rd_T34 l0_5 x54_3).f0))).setCell ⟨gb262,1,none⟩ (.int .i64 ((rd_T34 l0_5 x54_3).f1))).setCell ⟨gb262,2,none⟩ (.bool ((rd_T34 l0_5 x54_3).f2))).setCell ⟨gb262,3,none⟩ (.slice A261_3 ((rd_T34 l0_5 x54_3).f3).length c261_3)).setCell ⟨gb262,4,none⟩ (.bool ((rd_T34 l0_5 x54_3).f4))).setCell ⟨gb262,5,none⟩ (.slice A261_5 ((rd_T34 l0_5 x54_3).f5).length c261_5))):=⟨by repeat (first|(with_reducible first|exact HB.out|apply zza|apply zzb|apply zzc|refine zzd ?_ GE256.out|refine zzd ?_ GE262.out)|exact HB.out)⟩;(try clear BK256);(try clear BK262);(try clear HB);generalize ((((((w42.setCell ⟨gb262,0,none⟩ (.int .i64 ((rd_T34 l0_5 x54_3).f0))).setCell ⟨gb262,1,none⟩ (.int .i64 ((rd_T34 l0_5 x54_3).f1))).setCell ⟨gb262,2,none⟩ (.bool ((rd_T34 l0_5 x54_3).f2))).setCell ⟨gb262,3,none⟩ (.slice A261_3 ((rd_T34 l0_5 x54_3).f3).length c261_3)).setCell ⟨gb262,4,none⟩ (.bool ((rd_T34 l0_5 x54_3).f4))).setCell ⟨gb262,5,none⟩ (.slice A261_5 ((rd_T34 l0_5 x54_3).f5).length c261_5))=w45 at n0_ n1_ n2_ ⊢;have BK256:=n0_;have BK262:=n1_;have HB:=n2_;clear n0_ n1_ n2_;have n0_:=zzm (zzg BK256.out);have n1_:=zzm (zzg BK262.out);have n2_:=zzm (zzc HB.out);clear BK256 BK262 HB;have BK256:=n0_;have BK262:=n1_;have HB:=n2_;clear n0_ n1_ n2_;have p264 : 0≤((ji38):Int):=zzt;have q264:(ji38) < (l0_5.length:Int):=zzt;obtain ⟨ad264,A264_3,c264_3,A264_5,c264_5,e264,hx264_0,hx264_1,hx264_2,hx264_3,hx264_4,hx264_5,hl264_3,hi264_3,hl264_5,hi264_5⟩:=at_T34 HR0_5.out (ji38) p264 q264;have hw264_5:=hx264_5;have hw264_4:=hx264_4;have hw264_3:=hx264_3;have hw264_2:=hx264_2;have hw264_1:=hx264_1;have hw264_0:=hx264_0;obtain rfl:ad261=ad264:=(by injection e264);replace hx264_0:=zzx HB.out hx264_0;replace hx264_1:=zzx HB.out hx264_1;replace hx264_2:=zzx HB.out hx264_2;replace hx264_3:=zzx HB.out hx264_3;replace hx264_4:=zzx HB.out hx264_4;replace hx264_5:=zzx HB.out hx264_5;have HR264_3:=zzm hi264_3;have HC264_3:=zzm hl264_3;clear hi264_3 hl264_3;have HR264_5:=zzm hi264_5;have HC264_5:=zzm hl264_5;clear hi264_5 hl264_5;replace p264:=eq_true p264;replace q264:=eq_true q264;refine start_ (n:=19) (S:=fun w'=>w'.cell? ⟨gb262,0,none⟩=some (.int .i64 ((rd_T34 l0_5 x54_3).f0))∧w'.cell? ⟨gb262,1,none⟩=some (.int .i64 ((rd_T34 l0_5 x54_3).f1))∧w'.cell? ⟨gb262,2,none⟩=some (.bool ((rd_T34 l0_5 x54_3).f2))∧w'.cell? ⟨gb262,3,none⟩=some (.slice A261_3 ((rd_T34 l0_5 x54_3).f3).length c261_3)∧w'.cell? ⟨gb262,4,none⟩=some (.bool ((rd_T34 l0_5 x54_3).f4))∧w'.cell? ⟨gb262,5,none⟩=some (.slice A261_5 ((rd_T34 l0_5 x54_3).f5).length c261_5)∧w'.cell? ⟨gb256,0,none⟩=some (.bool a0_0)∧w'.cell? ⟨gb256,1,none⟩=some (.bool a0_1)∧w'.cell? ⟨gb256,2,none⟩=some (.int .i64 a0_2)∧w'.cell? ⟨gb256,3,none⟩=some (.int .i64 a0_3)∧w'.cell? ⟨gb256,4,none⟩=some (.int .i64 a0_4)∧w'.cell? ⟨gb256,5,none⟩=some (.slice (some ad261) l0_5.length c0_5)∧w'.cell? (ad261.add (((ji38)).toNat * 6))=some (.int .i64 ((rd_T34 l0_5 (ji38)).f0))∧w'.cell? ⟨(ad261.add (((ji38)).toNat * 6)).block,(ad261.add (((ji38)).toNat * 6)).off+1,none⟩=some (.int .i64 ((rd_T34 l0_5 (ji38)).f1))∧w'.cell? ⟨(ad261.add (((ji38)).toNat * 6)).block,(ad261.add (((ji38)).toNat * 6)).off+2,none⟩=some (.bool ((rd_T34 l0_5 (ji38)).f2))∧w'.cell? ⟨(ad261.add (((ji38)).toNat * 6)).block,(ad261.add (((ji38)).toNat * 6)).off+3,none⟩=some (.slice A264_3 ((rd_T34 l0_5 (ji38)).f3).length c264_3)∧w'.cell? ⟨(ad261.add (((ji38)).toNat * 6)).block,(ad261.add (((ji38)).toNat * 6)).off+4,none⟩=some (.bool ((rd_T34 l0_5 (ji38)).f4))∧w'.cell? ⟨(ad261.add (((ji38)).toNat * 6)).block,(ad261.add (((ji38)).toNat * 6)).off+5,none⟩=some (.slice A264_5 ((rd_T34 l0_5 (ji38)).f5).length c264_5)) (ds:=[]) (zzB 19 0) (by kernel_rfl) rfl rfl ⟨(zzk BK262.out 0).trans rfl,(zzk BK262.out 1).trans rfl,(zzk BK262.out 2).trans rfl,(zzk BK262.out 3).trans rfl,(zzk BK262.out 4).trans rfl,(zzk BK262.out 5).trans rfl,(zzk BK256.out 0).trans rfl,(zzk BK256.out 1).trans rfl,(zzk BK256.out 2).trans rfl,(zzk BK256.out 3).trans rfl,(zzk BK256.out 4).trans rfl,(zzk BK256.out 5).trans rfl,(zzx HB.out hw264_0),(zzx HB.out hw264_1),(zzx HB.out hw264_2),(zzx HB.out hw264_3),(zzx HB.out hw264_4),(zzx HB.out hw264_5)⟩ (fun hHeld=>?_);refine with_tabW impl_BatchValid.tab11 impl_BatchValid.bits11 (fun HT_ HW_=>?_);generalize w45.drew=w46 at BK256 BK262 HB HR264_3 HR264_5 hx264_0 hx264_1 hx264_2 hx264_3 hx264_4 hx264_5 hHeld ⊢;refine take_ (i:=0) (N:=some 59) (v:=?_) (a':=?_) (zzB 19 1) rfl rfl (take_ofW HT_.out HW_.out (by kernel_rfl)) (fun _ _ _ h=>h) (Or.inl ⟨by rfl,?_⟩) hHeld ?_ ?_;rotate_left
                ·
                 rintro w' ⟨s0,s1,s2,s3,s4,s5,s6,s7,s8,s9,s10,s11,s12,s13,s14,s15,s16,s17⟩;go_simp;with_reducible rfl
                rotate_left
                ·
                 simp only [Act.put,zzq,zzr,zzs,i64_w,i32_w];rfl
                refine one_ (i:=1) (N:=some 60) (zzB 19 3) rfl rfl (one_of HT_.out (by kernel_rfl)) (by decide) (fun K hK=>?_);refine goes_ Try.func58 (by kernel_rfl) rfl #[.agg #[.int .i64 ((rd_T34 l0_5 x54_3).f0),.int .i64 ((rd_T34 l0_5 x54_3).f1),.bool ((rd_T34 l0_5 x54_3).f2),.slice A261_3 ((rd_T34 l0_5 x54_3).f3).length c261_3,.bool ((rd_T34 l0_5 x54_3).f4),.slice A261_5 ((rd_T34 l0_5 x54_3).f5).length c261_5]] (by rfl) rfl rfl zzM2 ?_;with_reducible refine (impl_RecordValid.calls k3 ((rd_T34 l0_5 x54_3).f0) ((rd_T34 l0_5 x54_3).f1) ((rd_T34 l0_5 x54_3).f2) _ _ ((rd_T34 l0_5 x54_3).f3) ((rd_T34 l0_5 x54_3).f4) _ _ ((rd_T34 l0_5 x54_3).f5) true _ ?side1 ?side2 ?side3 ?side4 A35.out).mono ?_;(case side1=>repeat (first|exact (Kd.C_below HR261_3.out HB.out)|(with_reducible refine Kd.C_alloc ?_ _)|(with_reducible refine Kd.C_drewN ?_ _)|(with_reducible refine Kd.C_drew ?_)));(case side2=>exact HC261_3.out);(case side3=>repeat (first|exact (Kd.C_below HR261_5.out HB.out)|(with_reducible refine Kd.C_alloc ?_ _)|(with_reducible refine Kd.C_drewN ?_ _)|(with_reducible refine Kd.C_drew ?_)));(case side4=>exact HC261_5.out);rintro e w47 ⟨rfl,hb⟩;refine ⟨_,rfl,?_⟩;have n0_:=zzm (zzh (g:=gb256) (o:=.cells #[.bool a0_0,.bool a0_1,.int .i64 a0_2,.int .i64 a0_3,.int .i64 a0_4,.slice (some ad261) l0_5.length c0_5] 27 (0,0)) (zzE BK256.out) hb);have n1_:=zzm (zzh (g:=gb262) (o:=.cells #[.int .i64 ((rd_T34 l0_5 x54_3).f0),.int .i64 ((rd_T34 l0_5 x54_3).f1),.bool ((rd_T34 l0_5 x54_3).f2),.slice A261_3 ((rd_T34 l0_5 x54_3).f3).length c261_3,.bool ((rd_T34 l0_5 x54_3).f4),.slice A261_5 ((rd_T34 l0_5 x54_3).f5).length c261_5] 34 (0,0)) (zzE BK262.out) hb);have n2_:=zzm (zzp zzh2 hb);clear BK256 BK262 HB;have BK256:=n0_;have BK262:=n1_;have HB:=n2_;clear n0_ n1_ n2_;(try clear hb);(try clear hb2);(try clear hk);(try clear hi);refine hK.out _ _ ⟨(zzk BK262.out 0).trans rfl,(zzk BK262.out 1).trans rfl,(zzk BK262.out 2).trans rfl,(zzk BK262.out 3).trans rfl,(zzk BK262.out 4).trans rfl,(zzk BK262.out 5).trans rfl,(zzk BK256.out 0).trans rfl,(zzk BK256.out 1).trans rfl,(zzk BK256.out 2).trans rfl,(zzk BK256.out 3).trans rfl,(zzk BK256.out 4).trans rfl,(zzk BK256.out 5).trans rfl,(zzx HB.out hw264_0),(zzx HB.out hw264_1),(zzx HB.out hw264_2),(zzx HB.out hw264_3),(zzx HB.out hw264_4),(zzx HB.out hw264_5)⟩ (fun hHeld=>?_);clear hK K;refine norm_ (a':=?_) ?_ ?_;rotate_left
                ·
                 show Act.put _ (some 60) _ = _;simp only [Act.put,zzq,zzr,zzs,i64_w,i32_w];rfl
                refine pure_ (i:=2) (N:=some 61) (v:=?_) (a':=?_) (zzB 19 7) rfl rfl (zzA2 HT_.out) (fun _ _ _ h=>h) (Or.inl ⟨by rfl,?_⟩) ?_ ?_;rotate_left
                ·
                 intro w';go_simp;with_reducible rfl
                rotate_left
                ·
                 simp only [Act.put,zzq,zzr,zzs,i64_w,i32_w];rfl
                refine pure_ (i:=3) (N:=some 62) (v:=?_) (a':=?_) (zzB 19 15) rfl rfl (zzA2 HT_.out) (fun _ _ _ h=>h) (Or.inl ⟨by rfl,?_⟩) ?_ ?_;rotate_left
                ·
                 intro w';go_simp;with_reducible rfl
                rotate_left
                ·
                 simp only [Act.put,zzq,zzr,zzs,i64_w,i32_w];rfl
                refine pure_ (i:=4) (N:=some 63) (v:=?_) (a':=?_) (zzB 19 31) rfl rfl (zzA2 HT_.out) (fun _ _ _ h=>h) (Or.inl ⟨by rfl,?_⟩) ?_ ?_;rotate_left
                ·
                 intro w';go_simp;with_reducible rfl
                rotate_left
                ·
                 simp only [Act.put,zzq,zzr,zzs,i64_w,i32_w];rfl
                refine pure_ (i:=5) (N:=some 64) (v:=?_) (a':=?_) (zzB 19 63) rfl rfl (zzA2 HT_.out) (fun _ _ _ h=>h) (Or.inl ⟨by rfl,?_⟩) ?_ ?_;rotate_left
                ·
                 intro w';go_simp;with_reducible rfl
                rotate_left
                ·
                 simp only [Act.put,zzq,zzr,zzs,i64_w,i32_w];rfl
                refine pure_ (i:=6) (N:=some 65) (v:=?_) (a':=?_) (zzB 19 127) rfl rfl (zzA2 HT_.out) (fun _ _ _ h=>h) (Or.inl ⟨by rfl,?_⟩) ?_ ?_;rotate_left
                ·
                 intro w';go_simp;with_reducible rfl
                rotate_left
                ·
                 simp only [Act.put,zzq,zzr,zzs,i64_w,i32_w];rfl
                refine pure_ (i:=7) (N:=some 66) (v:=?_) (a':=?_) (zzB 19 255) rfl rfl (zzA2 HT_.out) (fun _ _ _ h=>h) (Or.inl ⟨by rfl,?_⟩) ?_ ?_;rotate_left
                ·
                 intro w';go_simp;with_reducible rfl
                rotate_left
                ·
                 simp only [Act.put,zzq,zzr,zzs,i64_w,i32_w];rfl
                refine pure_ (i:=9) (N:=some 68) (v:=?_) (a':=?_) (zzB 19 767) rfl rfl (zzA2 HT_.out) (fun _ _ _ h=>h) (Or.inl ⟨by rfl,?_⟩) ?_ ?_;rotate_left
                ·
                 intro w';go_simp;with_reducible rfl
                rotate_left
                ·
                 simp only [Act.put,zzq,zzr,zzs,i64_w,i32_w];rfl
                refine pure_ (i:=10) (N:=some 69) (v:=?_) (a':=?_) (zzB 19 1791) rfl rfl (zzA2 HT_.out) (fun _ _ _ h=>h) (Or.inl ⟨by rfl,?_⟩) ?_ ?_;rotate_left
                ·
                 intro w';go_simp;with_reducible rfl
                rotate_left
                ·
                 simp only [Act.put,zzq,zzr,zzs,i64_w,i32_w];rfl
                refine pure_ (i:=14) (N:=some 73) (v:=?_) (a':=?_) (zzB 19 18175) rfl rfl (zzA2 HT_.out) (fun _ _ _ h=>h) (Or.inl ⟨by rfl,?_⟩) ?_ ?_;rotate_left
                ·
                 intro w';go_simp;with_reducible rfl
                rotate_left
                ·
                 simp only [Act.put,zzq,zzr,zzs,i64_w,i32_w];rfl
                refine take_ (i:=8) (N:=some 67) (v:=?_) (a':=?_) (zzB 19 18431) rfl rfl (take_ofW HT_.out HW_.out (by kernel_rfl)) (fun _ _ _ h=>h) (Or.inl ⟨by rfl,?_⟩) hHeld ?_ ?_;rotate_left
                ·
                 rintro w' ⟨s0,s1,s2,s3,s4,s5,s6,s7,s8,s9,s10,s11,s12,s13,s14,s15,s16,s17⟩;go_simp;with_reducible rfl
                rotate_left
                ·
                 simp only [Act.put,zzq,zzr,zzs,i64_w,i32_w];rfl
                refine pure_ (i:=11) (N:=some 70) (v:=?_) (a':=?_) (zzB 19 20479) rfl rfl (zzA2 HT_.out) (fun _ _ _ h=>h) (Or.inl ⟨by rfl,?_⟩) ?_ ?_;rotate_left
                ·
                 intro w';go_simp;with_reducible rfl
                rotate_left
                ·
                 simp only [Act.put,zzq,zzr,zzs,i64_w,i32_w];rfl
                refine pure_ (i:=12) (N:=some 71) (v:=?_) (a':=?_) (zzB 19 24575) rfl rfl (zzA2 HT_.out) (fun _ _ _ h=>h) (Or.inl ⟨by rfl,?_⟩) ?_ ?_;rotate_left
                ·
                 intro w';go_simp;with_reducible rfl
                rotate_left
                ·
                 simp only [Act.put,zzq,zzr,zzs,i64_w,i32_w];rfl
                refine take_ (i:=13) (N:=some 72) (v:=?_) (a':=?_) (zzB 19 32767) rfl rfl (take_ofW HT_.out HW_.out (by kernel_rfl)) (fun _ _ _ h=>h) (Or.inl ⟨by rfl,?_⟩) hHeld ?_ ?_;rotate_left
                ·
                 rintro w' ⟨s0,s1,s2,s3,s4,s5,s6,s7,s8,s9,s10,s11,s12,s13,s14,s15,s16,s17⟩;go_simp;with_reducible rfl
                rotate_left
                ·
                 simp only [Act.put,zzq,zzr,zzs,i64_w,i32_w];rfl
                refine take_ (i:=15) (N:=some 74) (v:=?_) (a':=?_) (zzB 19 65535) rfl rfl (take_ofW HT_.out HW_.out (by kernel_rfl)) (fun _ _ _ h=>h) (Or.inl ⟨by rfl,?_⟩) hHeld ?_ ?_;rotate_left
                ·
                 rintro w' ⟨s0,s1,s2,s3,s4,s5,s6,s7,s8,s9,s10,s11,s12,s13,s14,s15,s16,s17⟩;go_simp;with_reducible rfl
                rotate_left
                ·
                 simp only [Act.put,zzq,zzr,zzs,i64_w,i32_w];rfl
                refine pure_ (i:=16) (N:=some 75) (v:=?_) (a':=?_) (zzB 19 131071) rfl rfl (zzA2 HT_.out) (fun _ _ _ h=>h) (Or.inl ⟨by rfl,?_⟩) ?_ ?_;rotate_left
                ·
                 intro w';go_simp;with_reducible rfl
                rotate_left
                ·
                 simp only [Act.put,zzq,zzr,zzs,i64_w,i32_w];rfl
                refine pure_ (i:=17) (N:=some 76) (v:=?_) (a':=?_) (zzB 19 262143) rfl rfl (zzA2 HT_.out) (fun _ _ _ h=>h) (Or.inl ⟨by rfl,?_⟩) ?_ ?_;rotate_left
                ·
                 intro w';go_simp;with_reducible rfl
                rotate_left
                ·
                 simp only [Act.put,zzq,zzr,zzs,i64_w,i32_w];rfl
                refine pure_ (i:=18) (N:=some 77) (v:=?_) (a':=?_) (zzB 19 524287) rfl rfl (zzA2 HT_.out) (fun _ _ _ h=>h) (Or.inl ⟨by rfl,?_⟩) ?_ ?_;rotate_left
                ·
                 intro w';go_simp;with_reducible rfl
                rotate_left
                ·
                 simp only [Act.put,zzq,zzr,zzs,i64_w,i32_w];rfl
                refine done_ (done_of HT_.out (by kernel_rfl)) ?_;try go_wp2
                go_ret;exact ⟨by first|rfl|(simp [errW_none,errW_some] <;> rfl)|(simp only [← hji38];first|rfl|(simp [errW_none,errW_some] <;> rfl))|(simp [*,errW_none,errW_some] <;> rfl),by repeat (first|(with_reducible first|exact HB.out|apply zza|apply zzb|apply zzc|refine zzd ?_ GE256.out|refine zzd ?_ GE262.out)|exact HB.out)⟩
               ·
                rw [if_neg c41] at H;have c41b0:decide (((rd_T34 l0_5 x54_3).f0)≤((rd_T34 l0_5 (ji38)).f0))=false:=decide_eq_false c41;clear c41;have H':=zzm H;clear H;have p261 : 0≤(x54_3:Int):=zzt;have q261:x54_3 < (l0_5.length:Int):=zzt;obtain ⟨ad261,A261_3,c261_3,A261_5,c261_5,e261,hx261_0,hx261_1,hx261_2,hx261_3,hx261_4,hx261_5,hl261_3,hi261_3,hl261_5,hi261_5⟩:=at_T34 HR0_5.out x54_3 p261 q261;cases e261;replace hx261_0:=zzx HB.out hx261_0;replace hx261_1:=zzx HB.out hx261_1;replace hx261_2:=zzx HB.out hx261_2;replace hx261_3:=zzx HB.out hx261_3;replace hx261_4:=zzx HB.out hx261_4;replace hx261_5:=zzx HB.out hx261_5;have HR261_3:=zzm hi261_3;have HC261_3:=zzm hl261_3;clear hi261_3 hl261_3;have HR261_5:=zzm hi261_5;have HC261_5:=zzm hl261_5;clear hi261_5 hl261_5;replace p261:=eq_true p261;replace q261:=eq_true q261;try go_wp2_with (first|((with_reducible refine gate_dst (N:=4) rfl ?_);(try (refine gate_guard (by rfl) ?_;dsimp only));refine box_event ?hg (N:=4) ?hd (cs:=#[.int .i64 0,.int .i64 0,.bool false,.slice none 0 0,.bool false,.slice none 0 0]) (t:=34) ?hr ?_;(case hd=>rfl);(case hg=>rfl);(case hr=>first|(go_simp;done)|(go_simp;rfl));intro gb262 hg w48 hbox hb;have n0_:=zzm (zzh (g:=gb256) (o:=.cells #[.bool a0_0,.bool a0_1,.int .i64 a0_2,.int .i64 a0_3,.int .i64 a0_4,.slice (some ad261) l0_5.length c0_5] 27 (0,0)) (zzE BK256.out) hb);have n1_:=zzm (zzp zzh2 hb);have n2_:=zzm (hbox);have n3_:=zzm ((by rw [hg];exact (zzo zzh2):w.heap.size≤gb262));have n4_:=zzm ((by rw [hg];exact (zzo zzh2):w.heap.size≤gb262));have n5_:=zzm ((by rw [hg];exact Nat.ne_of_lt (blk_lt (g:=gb256) (o:=.cells #[.bool a0_0,.bool a0_1,.int .i64 a0_2,.int .i64 a0_3,.int .i64 a0_4,.slice (some ad261) l0_5.length c0_5] 27 (0,0)) (zzE BK256.out)):gb256≠gb262));have n6_:=zzm ((by rw [hg];exact Nat.ne_of_gt (blk_lt (g:=gb256) (o:=.cells #[.bool a0_0,.bool a0_1,.int .i64 a0_2,.int .i64 a0_3,.int .i64 a0_4,.slice (some ad261) l0_5.length c0_5] 27 (0,0)) (zzE BK256.out)):gb262≠gb256));clear BK256 HB;have BK256:=n0_;have HB:=n1_;have BK262:=n2_;have GW262:=n3_;have GE262:=n4_;have NB256_262:=n5_;have NB262_256:=n6_;clear n0_ n1_ n2_ n3_ n4_ n5_ n6_ hb hbox hg;have hnb49:=NB262_256.out;have hnc49:=NB256_262.out;obtain ⟨hcz50_0,hcz50_1,hcz50_2,hcz50_3,hcz50_4,hcz50_5,hfz50_0,hfz50_1,hfz50_2,hfz50_3,hfz50_4,hfz50_5⟩:=zzc6 BK262.out))
                have n0_:Aside0 (((((((w48.setCell ⟨gb262,0,none⟩ (.int .i64 ((rd_T34 l0_5 x54_3).f0))).setCell ⟨gb262,1,none⟩ (.int .i64 ((rd_T34 l0_5 x54_3).f1))).setCell ⟨gb262,2,none⟩ (.bool ((rd_T34 l0_5 x54_3).f2))).setCell ⟨gb262,3,none⟩ (.slice A261_3 ((rd_T34 l0_5 x54_3).f3).length c261_3)).setCell ⟨gb262,4,none⟩ (.bool ((rd_T34 l0_5 x54_3).f4))).setCell ⟨gb262,5,none⟩ (.slice A261_5 ((rd_T34 l0_5 x54_3).f5).length c261_5)).heap[gb256]? = some (.cells #[.bool a0_0,.bool a0_1,.int .i64 a0_2,.int .i64 a0_3,.int .i64 a0_4,.slice (some ad261) l0_5.length c0_5] 27 (0,0))):=⟨by (with_reducible repeat (first|apply zzf|apply zzg|apply zze));refine zzj ?_ NB256_262.out _;(with_reducible repeat (first|apply zzf|apply zzg|apply zze));refine zzj ?_ NB256_262.out _;(with_reducible repeat (first|apply zzf|apply zzg|apply zze));refine zzj ?_ NB256_262.out _;(with_reducible repeat (first|apply zzf|apply zzg|apply zze));refine zzj ?_ NB256_262.out _;(with_reducible repeat (first|apply zzf|apply zzg|apply zze));refine zzj ?_ NB256_262.out _;(with_reducible repeat (first|apply zzf|apply zzg|apply zze));refine zzj ?_ NB256_262.out _;(with_reducible repeat (first|apply zzf|apply zzg|apply zze));exact BK256.out⟩;have n1_:Aside0 (((((((w48.setCell ⟨gb262,0,none⟩ (.int .i64 ((rd_T34 l0_5 x54_3).f0))).setCell ⟨gb262,1,none⟩ (.int .i64 ((rd_T34 l0_5 x54_3).f1))).setCell ⟨gb262,2,none⟩ (.bool ((rd_T34 l0_5 x54_3).f2))).setCell ⟨gb262,3,none⟩ (.slice A261_3 ((rd_T34 l0_5 x54_3).f3).length c261_3)).setCell ⟨gb262,4,none⟩ (.bool ((rd_T34 l0_5 x54_3).f4))).setCell ⟨gb262,5,none⟩ (.slice A261_5 ((rd_T34 l0_5 x54_3).f5).length c261_5)).heap[gb262]? = some (.cells #[.int .i64 ((rd_T34 l0_5 x54_3).f0),.int .i64 ((rd_T34 l0_5 x54_3).f1),.bool ((rd_T34 l0_5 x54_3).f2),.slice A261_3 ((rd_T34 l0_5 x54_3).f3).length c261_3,.bool ((rd_T34 l0_5 x54_3).f4),.slice A261_5 ((rd_T34 l0_5 x54_3).f5).length c261_5] 34 (0,0))):=⟨by (with_reducible repeat (first|apply zzf|apply zzg|apply zze));refine zzi (cs:=#[.int .i64 ((rd_T34 l0_5 x54_3).f0),.int .i64 ((rd_T34 l0_5 x54_3).f1),.bool ((rd_T34 l0_5 x54_3).f2),.slice A261_3 ((rd_T34 l0_5 x54_3).f3).length c261_3,.bool ((rd_T34 l0_5 x54_3).f4),.slice none 0 0]) ?_ 5 _ rfl;(with_reducible repeat (first|apply zzf|apply zzg|apply zze));refine zzi (cs:=#[.int .i64 ((rd_T34 l0_5 x54_3).f0),.int .i64 ((rd_T34 l0_5 x54_3).f1),.bool ((rd_T34 l0_5 x54_3).f2),.slice A261_3 ((rd_T34 l0_5 x54_3).f3).length c261_3,.bool false,.slice none 0 0]) ?_ 4 _ rfl;(with_reducible repeat (first|apply zzf|apply zzg|apply zze));refine zzi (cs:=#[.int .i64 ((rd_T34 l0_5 x54_3).f0),.int .i64 ((rd_T34 l0_5 x54_3).f1),.bool ((rd_T34 l0_5 x54_3).f2),.slice none 0 0,.bool false,.slice none 0 0]) ?_ 3 _ rfl;(with_reducible repeat (first|apply zzf|apply zzg|apply zze));refine zzi (cs:=#[.int .i64 ((rd_T34 l0_5 x54_3).f0),.int .i64 ((rd_T34 l0_5 x54_3).f1),.bool false,.slice none 0 0,.bool false,.slice none 0 0]) ?_ 2 _ rfl;(with_reducible repeat (first|apply zzf|apply zzg|apply zze));refine zzi (cs:=#[.int .i64 ((rd_T34 l0_5 x54_3).f0),.int .i64 0,.bool false,.slice none 0 0,.bool false,.slice none 0 0]) ?_ 1 _ rfl;(with_reducible repeat (first|apply zzf|apply zzg|apply zze));refine zzi (cs:=#[.int .i64 0,.int .i64 0,.bool false,.slice none 0 0,.bool false,.slice none 0 0]) ?_ 0 _ rfl;(with_reducible repeat (first|apply zzf|apply zzg|apply zze));exact BK262.out⟩;have n2_:Aside0 (Below w.heap.size w ((((((w48.setCell ⟨gb262,0,none⟩ (.int .i64 ((rd_T34 l0_5 x54_3).f0))).setCell ⟨gb262,1,none⟩ (.int .i64 ((rd_T34 l0_5 x54_3).f1))).setCell ⟨gb262,2,none⟩ (.bool ((rd_T34 l0_5 x54_3).f2))).setCell ⟨gb262,3,none⟩ (.slice A261_3 ((rd_T34 l0_5 x54_3).f3).length c261_3)).setCell ⟨gb262,4,none⟩ (.bool ((rd_T34 l0_5 x54_3).f4))).setCell ⟨gb262,5,none⟩ (.slice A261_5 ((rd_T34 l0_5 x54_3).f5).length c261_5))):=⟨by repeat (first|(with_reducible first|exact HB.out|apply zza|apply zzb|apply zzc|refine zzd ?_ GE256.out|refine zzd ?_ GE262.out)|exact HB.out)⟩;(try clear BK256);(try clear BK262);(try clear HB);generalize ((((((w48.setCell ⟨gb262,0,none⟩ (.int .i64 ((rd_T34 l0_5 x54_3).f0))).setCell ⟨gb262,1,none⟩ (.int .i64 ((rd_T34 l0_5 x54_3).f1))).setCell ⟨gb262,2,none⟩ (.bool ((rd_T34 l0_5 x54_3).f2))).setCell ⟨gb262,3,none⟩ (.slice A261_3 ((rd_T34 l0_5 x54_3).f3).length c261_3)).setCell ⟨gb262,4,none⟩ (.bool ((rd_T34 l0_5 x54_3).f4))).setCell ⟨gb262,5,none⟩ (.slice A261_5 ((rd_T34 l0_5 x54_3).f5).length c261_5))=w51 at n0_ n1_ n2_ ⊢;have BK256:=n0_;have BK262:=n1_;have HB:=n2_;clear n0_ n1_ n2_;have n0_:=zzm (zzg BK256.out);have n1_:=zzm (zzg BK262.out);have n2_:=zzm (zzc HB.out);clear BK256 BK262 HB;have BK256:=n0_;have BK262:=n1_;have HB:=n2_;clear n0_ n1_ n2_;have p264 : 0≤((ji38):Int):=zzt;have q264:(ji38) < (l0_5.length:Int):=zzt;obtain ⟨ad264,A264_3,c264_3,A264_5,c264_5,e264,hx264_0,hx264_1,hx264_2,hx264_3,hx264_4,hx264_5,hl264_3,hi264_3,hl264_5,hi264_5⟩:=at_T34 HR0_5.out (ji38) p264 q264;have hw264_5:=hx264_5;have hw264_4:=hx264_4;have hw264_3:=hx264_3;have hw264_2:=hx264_2;have hw264_1:=hx264_1;have hw264_0:=hx264_0;obtain rfl:ad261=ad264:=(by injection e264);replace hx264_0:=zzx HB.out hx264_0;replace hx264_1:=zzx HB.out hx264_1;replace hx264_2:=zzx HB.out hx264_2;replace hx264_3:=zzx HB.out hx264_3;replace hx264_4:=zzx HB.out hx264_4;replace hx264_5:=zzx HB.out hx264_5;have HR264_3:=zzm hi264_3;have HC264_3:=zzm hl264_3;clear hi264_3 hl264_3;have HR264_5:=zzm hi264_5;have HC264_5:=zzm hl264_5;clear hi264_5 hl264_5;replace p264:=eq_true p264;replace q264:=eq_true q264;refine start_ (n:=19) (S:=fun w'=>w'.cell? ⟨gb262,0,none⟩=some (.int .i64 ((rd_T34 l0_5 x54_3).f0))∧w'.cell? ⟨gb262,1,none⟩=some (.int .i64 ((rd_T34 l0_5 x54_3).f1))∧w'.cell? ⟨gb262,2,none⟩=some (.bool ((rd_T34 l0_5 x54_3).f2))∧w'.cell? ⟨gb262,3,none⟩=some (.slice A261_3 ((rd_T34 l0_5 x54_3).f3).length c261_3)∧w'.cell? ⟨gb262,4,none⟩=some (.bool ((rd_T34 l0_5 x54_3).f4))∧w'.cell? ⟨gb262,5,none⟩=some (.slice A261_5 ((rd_T34 l0_5 x54_3).f5).length c261_5)∧w'.cell? ⟨gb256,0,none⟩=some (.bool a0_0)∧w'.cell? ⟨gb256,1,none⟩=some (.bool a0_1)∧w'.cell? ⟨gb256,2,none⟩=some (.int .i64 a0_2)∧w'.cell? ⟨gb256,3,none⟩=some (.int .i64 a0_3)∧w'.cell? ⟨gb256,4,none⟩=some (.int .i64 a0_4)∧w'.cell? ⟨gb256,5,none⟩=some (.slice (some ad261) l0_5.length c0_5)∧w'.cell? (ad261.add (((ji38)).toNat * 6))=some (.int .i64 ((rd_T34 l0_5 (ji38)).f0))∧w'.cell? ⟨(ad261.add (((ji38)).toNat * 6)).block,(ad261.add (((ji38)).toNat * 6)).off+1,none⟩=some (.int .i64 ((rd_T34 l0_5 (ji38)).f1))∧w'.cell? ⟨(ad261.add (((ji38)).toNat * 6)).block,(ad261.add (((ji38)).toNat * 6)).off+2,none⟩=some (.bool ((rd_T34 l0_5 (ji38)).f2))∧w'.cell? ⟨(ad261.add (((ji38)).toNat * 6)).block,(ad261.add (((ji38)).toNat * 6)).off+3,none⟩=some (.slice A264_3 ((rd_T34 l0_5 (ji38)).f3).length c264_3)∧w'.cell? ⟨(ad261.add (((ji38)).toNat * 6)).block,(ad261.add (((ji38)).toNat * 6)).off+4,none⟩=some (.bool ((rd_T34 l0_5 (ji38)).f4))∧w'.cell? ⟨(ad261.add (((ji38)).toNat * 6)).block,(ad261.add (((ji38)).toNat * 6)).off+5,none⟩=some (.slice A264_5 ((rd_T34 l0_5 (ji38)).f5).length c264_5)) (ds:=[]) (zzB 19 0) (by kernel_rfl) rfl rfl ⟨(zzk BK262.out 0).trans rfl,(zzk BK262.out 1).trans rfl,(zzk BK262.out 2).trans rfl,(zzk BK262.out 3).trans rfl,(zzk BK262.out 4).trans rfl,(zzk BK262.out 5).trans rfl,(zzk BK256.out 0).trans rfl,(zzk BK256.out 1).trans rfl,(zzk BK256.out 2).trans rfl,(zzk BK256.out 3).trans rfl,(zzk BK256.out 4).trans rfl,(zzk BK256.out 5).trans rfl,(zzx HB.out hw264_0),(zzx HB.out hw264_1),(zzx HB.out hw264_2),(zzx HB.out hw264_3),(zzx HB.out hw264_4),(zzx HB.out hw264_5)⟩ (fun hHeld=>?_);refine with_tabW impl_BatchValid.tab11 impl_BatchValid.bits11 (fun HT_ HW_=>?_);generalize w51.drew=w52 at BK256 BK262 HB HR264_3 HR264_5 hx264_0 hx264_1 hx264_2 hx264_3 hx264_4 hx264_5 hHeld ⊢;refine take_ (i:=0) (N:=some 59) (v:=?_) (a':=?_) (zzB 19 1) rfl rfl (take_ofW HT_.out HW_.out (by kernel_rfl)) (fun _ _ _ h=>h) (Or.inl ⟨by rfl,?_⟩) hHeld ?_ ?_;rotate_left
                ·
                 rintro w' ⟨s0,s1,s2,s3,s4,s5,s6,s7,s8,s9,s10,s11,s12,s13,s14,s15,s16,s17⟩;go_simp;with_reducible rfl
                rotate_left
                ·
                 simp only [Act.put,zzq,zzr,zzs,i64_w,i32_w];rfl
                refine one_ (i:=1) (N:=some 60) (zzB 19 3) rfl rfl (one_of HT_.out (by kernel_rfl)) (by decide) (fun K hK=>?_);refine goes_ Try.func58 (by kernel_rfl) rfl #[.agg #[.int .i64 ((rd_T34 l0_5 x54_3).f0),.int .i64 ((rd_T34 l0_5 x54_3).f1),.bool ((rd_T34 l0_5 x54_3).f2),.slice A261_3 ((rd_T34 l0_5 x54_3).f3).length c261_3,.bool ((rd_T34 l0_5 x54_3).f4),.slice A261_5 ((rd_T34 l0_5 x54_3).f5).length c261_5]] (by rfl) rfl rfl zzM2 ?_;with_reducible refine (impl_RecordValid.calls k3 ((rd_T34 l0_5 x54_3).f0) ((rd_T34 l0_5 x54_3).f1) ((rd_T34 l0_5 x54_3).f2) _ _ ((rd_T34 l0_5 x54_3).f3) ((rd_T34 l0_5 x54_3).f4) _ _ ((rd_T34 l0_5 x54_3).f5) true _ ?side1 ?side2 ?side3 ?side4 A35.out).mono ?_;(case side1=>repeat (first|exact (Kd.C_below HR261_3.out HB.out)|(with_reducible refine Kd.C_alloc ?_ _)|(with_reducible refine Kd.C_drewN ?_ _)|(with_reducible refine Kd.C_drew ?_)));(case side2=>exact HC261_3.out);(case side3=>repeat (first|exact (Kd.C_below HR261_5.out HB.out)|(with_reducible refine Kd.C_alloc ?_ _)|(with_reducible refine Kd.C_drewN ?_ _)|(with_reducible refine Kd.C_drew ?_)));(case side4=>exact HC261_5.out);rintro e w53 ⟨rfl,hb⟩;refine ⟨_,rfl,?_⟩;have n0_:=zzm (zzh (g:=gb256) (o:=.cells #[.bool a0_0,.bool a0_1,.int .i64 a0_2,.int .i64 a0_3,.int .i64 a0_4,.slice (some ad261) l0_5.length c0_5] 27 (0,0)) (zzE BK256.out) hb);have n1_:=zzm (zzh (g:=gb262) (o:=.cells #[.int .i64 ((rd_T34 l0_5 x54_3).f0),.int .i64 ((rd_T34 l0_5 x54_3).f1),.bool ((rd_T34 l0_5 x54_3).f2),.slice A261_3 ((rd_T34 l0_5 x54_3).f3).length c261_3,.bool ((rd_T34 l0_5 x54_3).f4),.slice A261_5 ((rd_T34 l0_5 x54_3).f5).length c261_5] 34 (0,0)) (zzE BK262.out) hb);have n2_:=zzm (zzp zzh2 hb);clear BK256 BK262 HB;have BK256:=n0_;have BK262:=n1_;have HB:=n2_;clear n0_ n1_ n2_;(try clear hb);(try clear hb2);(try clear hk);(try clear hi);refine hK.out _ _ ⟨(zzk BK262.out 0).trans rfl,(zzk BK262.out 1).trans rfl,(zzk BK262.out 2).trans rfl,(zzk BK262.out 3).trans rfl,(zzk BK262.out 4).trans rfl,(zzk BK262.out 5).trans rfl,(zzk BK256.out 0).trans rfl,(zzk BK256.out 1).trans rfl,(zzk BK256.out 2).trans rfl,(zzk BK256.out 3).trans rfl,(zzk BK256.out 4).trans rfl,(zzk BK256.out 5).trans rfl,(zzx HB.out hw264_0),(zzx HB.out hw264_1),(zzx HB.out hw264_2),(zzx HB.out hw264_3),(zzx HB.out hw264_4),(zzx HB.out hw264_5)⟩ (fun hHeld=>?_);clear hK K;refine norm_ (a':=?_) ?_ ?_;rotate_left
                ·
                 show Act.put _ (some 60) _ = _;simp only [Act.put,zzq,zzr,zzs,i64_w,i32_w];rfl
                refine pure_ (i:=2) (N:=some 61) (v:=?_) (a':=?_) (zzB 19 7) rfl rfl (zzA2 HT_.out) (fun _ _ _ h=>h) (Or.inl ⟨by rfl,?_⟩) ?_ ?_;rotate_left
                ·
                 intro w';go_simp;with_reducible rfl
                rotate_left
                ·
                 simp only [Act.put,zzq,zzr,zzs,i64_w,i32_w];rfl
                refine pure_ (i:=3) (N:=some 62) (v:=?_) (a':=?_) (zzB 19 15) rfl rfl (zzA2 HT_.out) (fun _ _ _ h=>h) (Or.inl ⟨by rfl,?_⟩) ?_ ?_;rotate_left
                ·
                 intro w';go_simp;with_reducible rfl
                rotate_left
                ·
                 simp only [Act.put,zzq,zzr,zzs,i64_w,i32_w];rfl
                refine pure_ (i:=4) (N:=some 63) (v:=?_) (a':=?_) (zzB 19 31) rfl rfl (zzA2 HT_.out) (fun _ _ _ h=>h) (Or.inl ⟨by rfl,?_⟩) ?_ ?_;rotate_left
                ·
                 intro w';go_simp;with_reducible rfl
                rotate_left
                ·
                 simp only [Act.put,zzq,zzr,zzs,i64_w,i32_w];rfl
                refine pure_ (i:=5) (N:=some 64) (v:=?_) (a':=?_) (zzB 19 63) rfl rfl (zzA2 HT_.out) (fun _ _ _ h=>h) (Or.inl ⟨by rfl,?_⟩) ?_ ?_;rotate_left
                ·
                 intro w';go_simp;with_reducible rfl
                rotate_left
                ·
                 simp only [Act.put,zzq,zzr,zzs,i64_w,i32_w];rfl
                refine pure_ (i:=6) (N:=some 65) (v:=?_) (a':=?_) (zzB 19 127) rfl rfl (zzA2 HT_.out) (fun _ _ _ h=>h) (Or.inl ⟨by rfl,?_⟩) ?_ ?_;rotate_left
                ·
                 intro w';go_simp;with_reducible rfl
                rotate_left
                ·
                 simp only [Act.put,zzq,zzr,zzs,i64_w,i32_w];rfl
                refine pure_ (i:=7) (N:=some 66) (v:=?_) (a':=?_) (zzB 19 255) rfl rfl (zzA2 HT_.out) (fun _ _ _ h=>h) (Or.inl ⟨by rfl,?_⟩) ?_ ?_;rotate_left
                ·
                 intro w';go_simp;with_reducible rfl
                rotate_left
                ·
                 simp only [Act.put,zzq,zzr,zzs,i64_w,i32_w];rfl
                refine pure_ (i:=9) (N:=some 68) (v:=?_) (a':=?_) (zzB 19 767) rfl rfl (zzA2 HT_.out) (fun _ _ _ h=>h) (Or.inl ⟨by rfl,?_⟩) ?_ ?_;rotate_left
                ·
                 intro w';go_simp;with_reducible rfl
                rotate_left
                ·
                 simp only [Act.put,zzq,zzr,zzs,i64_w,i32_w];rfl
                refine pure_ (i:=10) (N:=some 69) (v:=?_) (a':=?_) (zzB 19 1791) rfl rfl (zzA2 HT_.out) (fun _ _ _ h=>h) (Or.inl ⟨by rfl,?_⟩) ?_ ?_;rotate_left
                ·
                 intro w';go_simp;with_reducible rfl
                rotate_left
                ·
                 simp only [Act.put,zzq,zzr,zzs,i64_w,i32_w];rfl
                refine pure_ (i:=14) (N:=some 73) (v:=?_) (a':=?_) (zzB 19 18175) rfl rfl (zzA2 HT_.out) (fun _ _ _ h=>h) (Or.inl ⟨by rfl,?_⟩) ?_ ?_;rotate_left
                ·
                 intro w';go_simp;with_reducible rfl
                rotate_left
                ·
                 simp only [Act.put,zzq,zzr,zzs,i64_w,i32_w];rfl
                refine take_ (i:=8) (N:=some 67) (v:=?_) (a':=?_) (zzB 19 18431) rfl rfl (take_ofW HT_.out HW_.out (by kernel_rfl)) (fun _ _ _ h=>h) (Or.inl ⟨by rfl,?_⟩) hHeld ?_ ?_;rotate_left
                ·
                 rintro w' ⟨s0,s1,s2,s3,s4,s5,s6,s7,s8,s9,s10,s11,s12,s13,s14,s15,s16,s17⟩;go_simp;with_reducible rfl
                rotate_left
                ·
                 simp only [Act.put,zzq,zzr,zzs,i64_w,i32_w];rfl
                refine pure_ (i:=11) (N:=some 70) (v:=?_) (a':=?_) (zzB 19 20479) rfl rfl (zzA2 HT_.out) (fun _ _ _ h=>h) (Or.inl ⟨by rfl,?_⟩) ?_ ?_;rotate_left
                ·
                 intro w';go_simp;with_reducible rfl
                rotate_left
                ·
                 simp only [Act.put,zzq,zzr,zzs,i64_w,i32_w];rfl
                refine pure_ (i:=12) (N:=some 71) (v:=?_) (a':=?_) (zzB 19 24575) rfl rfl (zzA2 HT_.out) (fun _ _ _ h=>h) (Or.inl ⟨by rfl,?_⟩) ?_ ?_;rotate_left
                ·
                 intro w';go_simp;with_reducible rfl
                rotate_left
                ·
                 simp only [Act.put,zzq,zzr,zzs,i64_w,i32_w];rfl
                refine take_ (i:=13) (N:=some 72) (v:=?_) (a':=?_) (zzB 19 32767) rfl rfl (take_ofW HT_.out HW_.out (by kernel_rfl)) (fun _ _ _ h=>h) (Or.inl ⟨by rfl,?_⟩) hHeld ?_ ?_;rotate_left
                ·
                 rintro w' ⟨s0,s1,s2,s3,s4,s5,s6,s7,s8,s9,s10,s11,s12,s13,s14,s15,s16,s17⟩;go_simp;with_reducible rfl
                rotate_left
                ·
                 simp only [Act.put,zzq,zzr,zzs,i64_w,i32_w];rfl
                refine take_ (i:=15) (N:=some 74) (v:=?_) (a':=?_) (zzB 19 65535) rfl rfl (take_ofW HT_.out HW_.out (by kernel_rfl)) (fun _ _ _ h=>h) (Or.inl ⟨by rfl,?_⟩) hHeld ?_ ?_;rotate_left
                ·
                 rintro w' ⟨s0,s1,s2,s3,s4,s5,s6,s7,s8,s9,s10,s11,s12,s13,s14,s15,s16,s17⟩;go_simp;with_reducible rfl
                rotate_left
                ·
                 simp only [Act.put,zzq,zzr,zzs,i64_w,i32_w];rfl
                refine pure_ (i:=16) (N:=some 75) (v:=?_) (a':=?_) (zzB 19 131071) rfl rfl (zzA2 HT_.out) (fun _ _ _ h=>h) (Or.inl ⟨by rfl,?_⟩) ?_ ?_;rotate_left
                ·
                 intro w';go_simp;with_reducible rfl
                rotate_left
                ·
                 simp only [Act.put,zzq,zzr,zzs,i64_w,i32_w];rfl
                refine pure_ (i:=17) (N:=some 76) (v:=?_) (a':=?_) (zzB 19 262143) rfl rfl (zzA2 HT_.out) (fun _ _ _ h=>h) (Or.inl ⟨by rfl,?_⟩) ?_ ?_;rotate_left
                ·
                 intro w';go_simp;with_reducible rfl
                rotate_left
                ·
                 simp only [Act.put,zzq,zzr,zzs,i64_w,i32_w];rfl
                refine pure_ (i:=18) (N:=some 77) (v:=?_) (a':=?_) (zzB 19 524287) rfl rfl (zzA2 HT_.out) (fun _ _ _ h=>h) (Or.inl ⟨by rfl,?_⟩) ?_ ?_;rotate_left
                ·
                 intro w';go_simp;with_reducible rfl
                rotate_left
                ·
                 simp only [Act.put,zzq,zzr,zzs,i64_w,i32_w];rfl
                refine done_ (done_of HT_.out (by kernel_rfl)) ?_;try go_wp2
                go_roundg k3
                case measure=>have:=HJ1.out;have:=HJ22.out;have:=HK3.out;omega
                case rel=>exact ⟨(wrap64 (x54_3+1)),(by first|rfl|(simp;done)|(simp [*];done)),H',⟨by have:=HJ1.out;have:=HJ22.out;have:=HK3.out;omega⟩,⟨by (with_reducible repeat (first|apply zzf|apply zzg|apply zze));exact BK256.out⟩,⟨by repeat (first|(with_reducible first|exact HB.out|apply zza|apply zzb|apply zzc|refine zzd ?_ GE256.out|refine zzd ?_ GE262.out)|exact HB.out)⟩⟩
              ·
               rw [if_neg c40] at H;exact absurd H (by simp)
             ·
              rw [if_neg c39] at H;exact absurd H (by simp)
            ·
             rw [if_neg c37] at H;have c37b0:decide (0 < x54_3)=false:=decide_eq_false c37;clear c37;have H':=zzm H;clear H;have p261 : 0≤(x54_3:Int):=zzt;have q261:x54_3 < (l0_5.length:Int):=zzt;obtain ⟨ad261,A261_3,c261_3,A261_5,c261_5,e261,hx261_0,hx261_1,hx261_2,hx261_3,hx261_4,hx261_5,hl261_3,hi261_3,hl261_5,hi261_5⟩:=at_T34 HR0_5.out x54_3 p261 q261;cases e261;replace hx261_0:=zzx HB.out hx261_0;replace hx261_1:=zzx HB.out hx261_1;replace hx261_2:=zzx HB.out hx261_2;replace hx261_3:=zzx HB.out hx261_3;replace hx261_4:=zzx HB.out hx261_4;replace hx261_5:=zzx HB.out hx261_5;have HR261_3:=zzm hi261_3;have HC261_3:=zzm hl261_3;clear hi261_3 hl261_3;have HR261_5:=zzm hi261_5;have HC261_5:=zzm hl261_5;clear hi261_5 hl261_5;replace p261:=eq_true p261;replace q261:=eq_true q261;try go_wp2_with (first|((with_reducible refine gate_dst (N:=4) rfl ?_);(try (refine gate_guard (by rfl) ?_;dsimp only));refine box_event ?hg (N:=4) ?hd (cs:=#[.int .i64 0,.int .i64 0,.bool false,.slice none 0 0,.bool false,.slice none 0 0]) (t:=34) ?hr ?_;(case hd=>rfl);(case hg=>rfl);(case hr=>first|(go_simp;done)|(go_simp;rfl));intro gb262 hg w54 hbox hb;have n0_:=zzm (zzh (g:=gb256) (o:=.cells #[.bool a0_0,.bool a0_1,.int .i64 a0_2,.int .i64 a0_3,.int .i64 a0_4,.slice (some ad261) l0_5.length c0_5] 27 (0,0)) (zzE BK256.out) hb);have n1_:=zzm (zzp zzh2 hb);have n2_:=zzm (hbox);have n3_:=zzm ((by rw [hg];exact (zzo zzh2):w.heap.size≤gb262));have n4_:=zzm ((by rw [hg];exact (zzo zzh2):w.heap.size≤gb262));have n5_:=zzm ((by rw [hg];exact Nat.ne_of_lt (blk_lt (g:=gb256) (o:=.cells #[.bool a0_0,.bool a0_1,.int .i64 a0_2,.int .i64 a0_3,.int .i64 a0_4,.slice (some ad261) l0_5.length c0_5] 27 (0,0)) (zzE BK256.out)):gb256≠gb262));have n6_:=zzm ((by rw [hg];exact Nat.ne_of_gt (blk_lt (g:=gb256) (o:=.cells #[.bool a0_0,.bool a0_1,.int .i64 a0_2,.int .i64 a0_3,.int .i64 a0_4,.slice (some ad261) l0_5.length c0_5] 27 (0,0)) (zzE BK256.out)):gb262≠gb256));clear BK256 HB;have BK256:=n0_;have HB:=n1_;have BK262:=n2_;have GW262:=n3_;have GE262:=n4_;have NB256_262:=n5_;have NB262_256:=n6_;clear n0_ n1_ n2_ n3_ n4_ n5_ n6_ hb hbox hg;have hnb55:=NB262_256.out;have hnc55:=NB256_262.out;obtain ⟨hcz56_0,hcz56_1,hcz56_2,hcz56_3,hcz56_4,hcz56_5,hfz56_0,hfz56_1,hfz56_2,hfz56_3,hfz56_4,hfz56_5⟩:=zzc6 BK262.out))
             have n0_:Aside0 (((((((w54.setCell ⟨gb262,0,none⟩ (.int .i64 ((rd_T34 l0_5 x54_3).f0))).setCell ⟨gb262,1,none⟩ (.int .i64 ((rd_T34 l0_5 x54_3).f1))).setCell ⟨gb262,2,none⟩ (.bool ((rd_T34 l0_5 x54_3).f2))).setCell ⟨gb262,3,none⟩ (.slice A261_3 ((rd_T34 l0_5 x54_3).f3).length c261_3)).setCell ⟨gb262,4,none⟩ (.bool ((rd_T34 l0_5 x54_3).f4))).setCell ⟨gb262,5,none⟩ (.slice A261_5 ((rd_T34 l0_5 x54_3).f5).length c261_5)).heap[gb256]? = some (.cells #[.bool a0_0,.bool a0_1,.int .i64 a0_2,.int .i64 a0_3,.int .i64 a0_4,.slice (some ad261) l0_5.length c0_5] 27 (0,0))):=⟨by (with_reducible repeat (first|apply zzf|apply zzg|apply zze));refine zzj ?_ NB256_262.out _;(with_reducible repeat (first|apply zzf|apply zzg|apply zze));refine zzj ?_ NB256_262.out _;(with_reducible repeat (first|apply zzf|apply zzg|apply zze));refine zzj ?_ NB256_262.out _;(with_reducible repeat (first|apply zzf|apply zzg|apply zze));refine zzj ?_ NB256_262.out _;(with_reducible repeat (first|apply zzf|apply zzg|apply zze));refine zzj ?_ NB256_262.out _;(with_reducible repeat (first|apply zzf|apply zzg|apply zze));refine zzj ?_ NB256_262.out _;(with_reducible repeat (first|apply zzf|apply zzg|apply zze));exact BK256.out⟩;have n1_:Aside0 (((((((w54.setCell ⟨gb262,0,none⟩ (.int .i64 ((rd_T34 l0_5 x54_3).f0))).setCell ⟨gb262,1,none⟩ (.int .i64 ((rd_T34 l0_5 x54_3).f1))).setCell ⟨gb262,2,none⟩ (.bool ((rd_T34 l0_5 x54_3).f2))).setCell ⟨gb262,3,none⟩ (.slice A261_3 ((rd_T34 l0_5 x54_3).f3).length c261_3)).setCell ⟨gb262,4,none⟩ (.bool ((rd_T34 l0_5 x54_3).f4))).setCell ⟨gb262,5,none⟩ (.slice A261_5 ((rd_T34 l0_5 x54_3).f5).length c261_5)).heap[gb262]? = some (.cells #[.int .i64 ((rd_T34 l0_5 x54_3).f0),.int .i64 ((rd_T34 l0_5 x54_3).f1),.bool ((rd_T34 l0_5 x54_3).f2),.slice A261_3 ((rd_T34 l0_5 x54_3).f3).length c261_3,.bool ((rd_T34 l0_5 x54_3).f4),.slice A261_5 ((rd_T34 l0_5 x54_3).f5).length c261_5] 34 (0,0))):=⟨by (with_reducible repeat (first|apply zzf|apply zzg|apply zze));refine zzi (cs:=#[.int .i64 ((rd_T34 l0_5 x54_3).f0),.int .i64 ((rd_T34 l0_5 x54_3).f1),.bool ((rd_T34 l0_5 x54_3).f2),.slice A261_3 ((rd_T34 l0_5 x54_3).f3).length c261_3,.bool ((rd_T34 l0_5 x54_3).f4),.slice none 0 0]) ?_ 5 _ rfl;(with_reducible repeat (first|apply zzf|apply zzg|apply zze));refine zzi (cs:=#[.int .i64 ((rd_T34 l0_5 x54_3).f0),.int .i64 ((rd_T34 l0_5 x54_3).f1),.bool ((rd_T34 l0_5 x54_3).f2),.slice A261_3 ((rd_T34 l0_5 x54_3).f3).length c261_3,.bool false,.slice none 0 0]) ?_ 4 _ rfl;(with_reducible repeat (first|apply zzf|apply zzg|apply zze));refine zzi (cs:=#[.int .i64 ((rd_T34 l0_5 x54_3).f0),.int .i64 ((rd_T34 l0_5 x54_3).f1),.bool ((rd_T34 l0_5 x54_3).f2),.slice none 0 0,.bool false,.slice none 0 0]) ?_ 3 _ rfl;(with_reducible repeat (first|apply zzf|apply zzg|apply zze));refine zzi (cs:=#[.int .i64 ((rd_T34 l0_5 x54_3).f0),.int .i64 ((rd_T34 l0_5 x54_3).f1),.bool false,.slice none 0 0,.bool false,.slice none 0 0]) ?_ 2 _ rfl;(with_reducible repeat (first|apply zzf|apply zzg|apply zze));refine zzi (cs:=#[.int .i64 ((rd_T34 l0_5 x54_3).f0),.int .i64 0,.bool false,.slice none 0 0,.bool false,.slice none 0 0]) ?_ 1 _ rfl;(with_reducible repeat (first|apply zzf|apply zzg|apply zze));refine zzi (cs:=#[.int .i64 0,.int .i64 0,.bool false,.slice none 0 0,.bool false,.slice none 0 0]) ?_ 0 _ rfl;(with_reducible repeat (first|apply zzf|apply zzg|apply zze));exact BK262.out⟩;have n2_:Aside0 (Below w.heap.size w ((((((w54.setCell ⟨gb262,0,none⟩ (.int .i64 ((rd_T34 l0_5 x54_3).f0))).setCell ⟨gb262,1,none⟩ (.int .i64 ((rd_T34 l0_5 x54_3).f1))).setCell ⟨gb262,2,none⟩ (.bool ((rd_T34 l0_5 x54_3).f2))).setCell ⟨gb262,3,none⟩ (.slice A261_3 ((rd_T34 l0_5 x54_3).f3).length c261_3)).setCell ⟨gb262,4,none⟩ (.bool ((rd_T34 l0_5 x54_3).f4))).setCell ⟨gb262,5,none⟩ (.slice A261_5 ((rd_T34 l0_5 x54_3).f5).length c261_5))):=⟨by repeat (first|(with_reducible first|exact HB.out|apply zza|apply zzb|apply zzc|refine zzd ?_ GE256.out|refine zzd ?_ GE262.out)|exact HB.out)⟩;(try clear BK256);(try clear BK262);(try clear HB);generalize ((((((w54.setCell ⟨gb262,0,none⟩ (.int .i64 ((rd_T34 l0_5 x54_3).f0))).setCell ⟨gb262,1,none⟩ (.int .i64 ((rd_T34 l0_5 x54_3).f1))).setCell ⟨gb262,2,none⟩ (.bool ((rd_T34 l0_5 x54_3).f2))).setCell ⟨gb262,3,none⟩ (.slice A261_3 ((rd_T34 l0_5 x54_3).f3).length c261_3)).setCell ⟨gb262,4,none⟩ (.bool ((rd_T34 l0_5 x54_3).f4))).setCell ⟨gb262,5,none⟩ (.slice A261_5 ((rd_T34 l0_5 x54_3).f5).length c261_5))=w57 at n0_ n1_ n2_ ⊢;have BK256:=n0_;have BK262:=n1_;have HB:=n2_;clear n0_ n1_ n2_;have n0_:=zzm (zzg BK256.out);have n1_:=zzm (zzg BK262.out);have n2_:=zzm (zzc HB.out);clear BK256 BK262 HB;have BK256:=n0_;have BK262:=n1_;have HB:=n2_;clear n0_ n1_ n2_;refine start_ (n:=19) (S:=fun w'=>w'.cell? ⟨gb262,0,none⟩=some (.int .i64 ((rd_T34 l0_5 x54_3).f0))∧w'.cell? ⟨gb262,1,none⟩=some (.int .i64 ((rd_T34 l0_5 x54_3).f1))∧w'.cell? ⟨gb262,2,none⟩=some (.bool ((rd_T34 l0_5 x54_3).f2))∧w'.cell? ⟨gb262,3,none⟩=some (.slice A261_3 ((rd_T34 l0_5 x54_3).f3).length c261_3)∧w'.cell? ⟨gb262,4,none⟩=some (.bool ((rd_T34 l0_5 x54_3).f4))∧w'.cell? ⟨gb262,5,none⟩=some (.slice A261_5 ((rd_T34 l0_5 x54_3).f5).length c261_5)) (ds:=[]) (zzB 19 0) (by kernel_rfl) rfl rfl ⟨(zzk BK262.out 0).trans rfl,(zzk BK262.out 1).trans rfl,(zzk BK262.out 2).trans rfl,(zzk BK262.out 3).trans rfl,(zzk BK262.out 4).trans rfl,(zzk BK262.out 5).trans rfl⟩ (fun hHeld=>?_);refine with_tabW impl_BatchValid.tab11 impl_BatchValid.bits11 (fun HT_ HW_=>?_);generalize w57.drew=w58 at BK256 BK262 HB hHeld ⊢;refine take_ (i:=0) (N:=some 59) (v:=?_) (a':=?_) (zzB 19 1) rfl rfl (take_ofW HT_.out HW_.out (by kernel_rfl)) (fun _ _ _ h=>h) (Or.inl ⟨by rfl,?_⟩) hHeld ?_ ?_;rotate_left
             ·
              rintro w' ⟨s0,s1,s2,s3,s4,s5⟩;go_simp;with_reducible rfl
             rotate_left
             ·
              simp only [Act.put,zzq,zzr,zzs,i64_w,i32_w];rfl
             refine one_ (i:=1) (N:=some 60) (zzB 19 3) rfl rfl (one_of HT_.out (by kernel_rfl)) (by decide) (fun K hK=>?_);refine goes_ Try.func58 (by kernel_rfl) rfl #[.agg #[.int .i64 ((rd_T34 l0_5 x54_3).f0),.int .i64 ((rd_T34 l0_5 x54_3).f1),.bool ((rd_T34 l0_5 x54_3).f2),.slice A261_3 ((rd_T34 l0_5 x54_3).f3).length c261_3,.bool ((rd_T34 l0_5 x54_3).f4),.slice A261_5 ((rd_T34 l0_5 x54_3).f5).length c261_5]] (by rfl) rfl rfl zzM2 ?_;with_reducible refine (impl_RecordValid.calls k3 ((rd_T34 l0_5 x54_3).f0) ((rd_T34 l0_5 x54_3).f1) ((rd_T34 l0_5 x54_3).f2) _ _ ((rd_T34 l0_5 x54_3).f3) ((rd_T34 l0_5 x54_3).f4) _ _ ((rd_T34 l0_5 x54_3).f5) true _ ?side1 ?side2 ?side3 ?side4 A35.out).mono ?_;(case side1=>repeat (first|exact (Kd.C_below HR261_3.out HB.out)|(with_reducible refine Kd.C_alloc ?_ _)|(with_reducible refine Kd.C_drewN ?_ _)|(with_reducible refine Kd.C_drew ?_)));(case side2=>exact HC261_3.out);(case side3=>repeat (first|exact (Kd.C_below HR261_5.out HB.out)|(with_reducible refine Kd.C_alloc ?_ _)|(with_reducible refine Kd.C_drewN ?_ _)|(with_reducible refine Kd.C_drew ?_)));(case side4=>exact HC261_5.out);rintro e w59 ⟨rfl,hb⟩;refine ⟨_,rfl,?_⟩;have n0_:=zzm (zzh (g:=gb256) (o:=.cells #[.bool a0_0,.bool a0_1,.int .i64 a0_2,.int .i64 a0_3,.int .i64 a0_4,.slice (some ad261) l0_5.length c0_5] 27 (0,0)) (zzE BK256.out) hb);have n1_:=zzm (zzh (g:=gb262) (o:=.cells #[.int .i64 ((rd_T34 l0_5 x54_3).f0),.int .i64 ((rd_T34 l0_5 x54_3).f1),.bool ((rd_T34 l0_5 x54_3).f2),.slice A261_3 ((rd_T34 l0_5 x54_3).f3).length c261_3,.bool ((rd_T34 l0_5 x54_3).f4),.slice A261_5 ((rd_T34 l0_5 x54_3).f5).length c261_5] 34 (0,0)) (zzE BK262.out) hb);have n2_:=zzm (zzp zzh2 hb);clear BK256 BK262 HB;have BK256:=n0_;have BK262:=n1_;have HB:=n2_;clear n0_ n1_ n2_;(try clear hb);(try clear hb2);(try clear hk);(try clear hi);refine hK.out _ _ ⟨(zzk BK262.out 0).trans rfl,(zzk BK262.out 1).trans rfl,(zzk BK262.out 2).trans rfl,(zzk BK262.out 3).trans rfl,(zzk BK262.out 4).trans rfl,(zzk BK262.out 5).trans rfl⟩ (fun hHeld=>?_);clear hK K;refine norm_ (a':=?_) ?_ ?_;rotate_left
             ·
              show Act.put _ (some 60) _ = _;simp only [Act.put,zzq,zzr,zzs,i64_w,i32_w];rfl
             refine pure_ (i:=2) (N:=some 61) (v:=?_) (a':=?_) (zzB 19 7) rfl rfl (zzA2 HT_.out) (fun _ _ _ h=>h) (Or.inl ⟨by rfl,?_⟩) ?_ ?_;rotate_left
             ·
              intro w';go_simp;with_reducible rfl
             rotate_left
             ·
              simp only [Act.put,zzq,zzr,zzs,i64_w,i32_w];rfl
             refine pure_ (i:=3) (N:=some 62) (v:=?_) (a':=?_) (zzB 19 15) rfl rfl (zzA2 HT_.out) (fun _ _ _ h=>h) (Or.inl ⟨by rfl,?_⟩) ?_ ?_;rotate_left
             ·
              intro w';go_simp;with_reducible rfl
             rotate_left
             ·
              simp only [Act.put,zzq,zzr,zzs,i64_w,i32_w];rfl
             refine pure_ (i:=4) (N:=some 63) (v:=?_) (a':=?_) (zzB 19 31) rfl rfl (zzA2 HT_.out) (fun _ _ _ h=>h) (Or.inl ⟨by rfl,?_⟩) ?_ ?_;rotate_left
             ·
              intro w';go_simp;with_reducible rfl
             rotate_left
             ·
              simp only [Act.put,zzq,zzr,zzs,i64_w,i32_w];rfl
             refine pure_ (i:=5) (N:=some 64) (v:=?_) (a':=?_) (zzB 19 63) rfl rfl (zzA2 HT_.out) (fun _ _ _ h=>h) (Or.inl ⟨by rfl,?_⟩) ?_ ?_;rotate_left
             ·
              intro w';go_simp;with_reducible rfl
             rotate_left
             ·
              simp only [Act.put,zzq,zzr,zzs,i64_w,i32_w];rfl
             refine pure_ (i:=6) (N:=some 65) (v:=?_) (a':=?_) (zzB 19 127) rfl rfl (zzA2 HT_.out) (fun _ _ _ h=>h) (Or.inl ⟨by rfl,?_⟩) ?_ ?_;rotate_left
             ·
              intro w';go_simp;with_reducible rfl
             rotate_left
             ·
              simp only [Act.put,zzq,zzr,zzs,i64_w,i32_w];rfl
             refine pure_ (i:=7) (N:=some 66) (v:=undef) (a':=?_) (zzB 19 255) rfl rfl (zzA2 HT_.out) (fun _ _ _ h=>h) (Or.inr ⟨by rfl,rfl⟩) ?_ ?_;rotate_left
             ·
              simp only [Act.put,zzq,zzr,zzs,i64_w,i32_w];rfl
             refine pure_ (i:=8) (N:=some 67) (v:=undef) (a':=?_) (zzB 19 511) rfl rfl (zzA2 HT_.out) (fun _ _ _ h=>h) (Or.inr ⟨by rfl,rfl⟩) ?_ ?_;rotate_left
             ·
              simp only [Act.put,zzq,zzr,zzs,i64_w,i32_w];rfl
             refine pure_ (i:=9) (N:=some 68) (v:=undef) (a':=?_) (zzB 19 1023) rfl rfl (zzA2 HT_.out) (fun _ _ _ h=>h) (Or.inr ⟨by rfl,rfl⟩) ?_ ?_;rotate_left
             ·
              simp only [Act.put,zzq,zzr,zzs,i64_w,i32_w];rfl
             refine pure_ (i:=10) (N:=some 69) (v:=undef) (a':=?_) (zzB 19 2047) rfl rfl (zzA2 HT_.out) (fun _ _ _ h=>h) (Or.inr ⟨by rfl,rfl⟩) ?_ ?_;rotate_left
             ·
              simp only [Act.put,zzq,zzr,zzs,i64_w,i32_w];rfl
             refine pure_ (i:=11) (N:=some 70) (v:=undef) (a':=?_) (zzB 19 4095) rfl rfl (zzA2 HT_.out) (fun _ _ _ h=>h) (Or.inr ⟨by rfl,rfl⟩) ?_ ?_;rotate_left
             ·
              simp only [Act.put,zzq,zzr,zzs,i64_w,i32_w];rfl
             refine pure_ (i:=12) (N:=some 71) (v:=undef) (a':=?_) (zzB 19 8191) rfl rfl (zzA2 HT_.out) (fun _ _ _ h=>h) (Or.inr ⟨by rfl,rfl⟩) ?_ ?_;rotate_left
             ·
              simp only [Act.put,zzq,zzr,zzs,i64_w,i32_w];rfl
             refine pure_ (i:=13) (N:=some 72) (v:=undef) (a':=?_) (zzB 19 16383) rfl rfl (zzA2 HT_.out) (fun _ _ _ h=>h) (Or.inr ⟨by rfl,rfl⟩) ?_ ?_;rotate_left
             ·
              simp only [Act.put,zzq,zzr,zzs,i64_w,i32_w];rfl
             refine pure_ (i:=14) (N:=some 73) (v:=undef) (a':=?_) (zzB 19 32767) rfl rfl (zzA2 HT_.out) (fun _ _ _ h=>h) (Or.inr ⟨by rfl,rfl⟩) ?_ ?_;rotate_left
             ·
              simp only [Act.put,zzq,zzr,zzs,i64_w,i32_w];rfl
             refine pure_ (i:=15) (N:=some 74) (v:=undef) (a':=?_) (zzB 19 65535) rfl rfl (zzA2 HT_.out) (fun _ _ _ h=>h) (Or.inr ⟨by rfl,rfl⟩) ?_ ?_;rotate_left
             ·
              simp only [Act.put,zzq,zzr,zzs,i64_w,i32_w];rfl
             refine pure_ (i:=16) (N:=some 75) (v:=undef) (a':=?_) (zzB 19 131071) rfl rfl (zzA2 HT_.out) (fun _ _ _ h=>h) (Or.inr ⟨by rfl,rfl⟩) ?_ ?_;rotate_left
             ·
              simp only [Act.put,zzq,zzr,zzs,i64_w,i32_w];rfl
             refine pure_ (i:=17) (N:=some 76) (v:=?_) (a':=?_) (zzB 19 262143) rfl rfl (zzA2 HT_.out) (fun _ _ _ h=>h) (Or.inl ⟨by rfl,?_⟩) ?_ ?_;rotate_left
             ·
              intro w';go_simp;with_reducible rfl
             rotate_left
             ·
              simp only [Act.put,zzq,zzr,zzs,i64_w,i32_w];rfl
             refine pure_ (i:=18) (N:=some 77) (v:=?_) (a':=?_) (zzB 19 524287) rfl rfl (zzA2 HT_.out) (fun _ _ _ h=>h) (Or.inl ⟨by rfl,?_⟩) ?_ ?_;rotate_left
             ·
              intro w';go_simp;with_reducible rfl
             rotate_left
             ·
              simp only [Act.put,zzq,zzr,zzs,i64_w,i32_w];rfl
             refine done_ (done_of HT_.out (by kernel_rfl)) ?_;try go_wp2
             go_roundg k3
             case measure=>have:=HJ1.out;have:=HJ22.out;have:=HK3.out;omega
             case rel=>exact ⟨(wrap64 (x54_3+1)),(by first|rfl|(simp;done)|(simp [*];done)),H',⟨by have:=HJ1.out;have:=HJ22.out;have:=HK3.out;omega⟩,⟨by (with_reducible repeat (first|apply zzf|apply zzg|apply zze));exact BK256.out⟩,⟨by repeat (first|(with_reducible first|exact HB.out|apply zza|apply zzb|apply zzc|refine zzd ?_ GE256.out|refine zzd ?_ GE262.out)|exact HB.out)⟩⟩
           ·
            replace c36:=Bool.eq_false_iff.mpr c36;subst c36;have H1:(some false)=some r:=by rw [if_neg (show ¬ (false=true) by decide)] at H;exact H
            clear H;have H:=H1;clear H1;obtain rfl:=Option.some.inj H;have p261 : 0≤(x54_3:Int):=zzt;have q261:x54_3 < (l0_5.length:Int):=zzt;obtain ⟨ad261,A261_3,c261_3,A261_5,c261_5,e261,hx261_0,hx261_1,hx261_2,hx261_3,hx261_4,hx261_5,hl261_3,hi261_3,hl261_5,hi261_5⟩:=at_T34 HR0_5.out x54_3 p261 q261;cases e261;replace hx261_0:=zzx HB.out hx261_0;replace hx261_1:=zzx HB.out hx261_1;replace hx261_2:=zzx HB.out hx261_2;replace hx261_3:=zzx HB.out hx261_3;replace hx261_4:=zzx HB.out hx261_4;replace hx261_5:=zzx HB.out hx261_5;have HR261_3:=zzm hi261_3;have HC261_3:=zzm hl261_3;clear hi261_3 hl261_3;have HR261_5:=zzm hi261_5;have HC261_5:=zzm hl261_5;clear hi261_5 hl261_5;replace p261:=eq_true p261;replace q261:=eq_true q261;try go_wp2_with (first|((with_reducible refine gate_dst (N:=4) rfl ?_);(try (refine gate_guard (by rfl) ?_;dsimp only));refine box_event ?hg (N:=4) ?hd (cs:=#[.int .i64 0,.int .i64 0,.bool false,.slice none 0 0,.bool false,.slice none 0 0]) (t:=34) ?hr ?_;(case hd=>rfl);(case hg=>rfl);(case hr=>first|(go_simp;done)|(go_simp;rfl));intro gb262 hg w60 hbox hb;have n0_:=zzm (zzh (g:=gb256) (o:=.cells #[.bool a0_0,.bool a0_1,.int .i64 a0_2,.int .i64 a0_3,.int .i64 a0_4,.slice (some ad261) l0_5.length c0_5] 27 (0,0)) (zzE BK256.out) hb);have n1_:=zzm (zzp zzh2 hb);have n2_:=zzm (hbox);have n3_:=zzm ((by rw [hg];exact (zzo zzh2):w.heap.size≤gb262));have n4_:=zzm ((by rw [hg];exact (zzo zzh2):w.heap.size≤gb262));have n5_:=zzm ((by rw [hg];exact Nat.ne_of_lt (blk_lt (g:=gb256) (o:=.cells #[.bool a0_0,.bool a0_1,.int .i64 a0_2,.int .i64 a0_3,.int .i64 a0_4,.slice (some ad261) l0_5.length c0_5] 27 (0,0)) (zzE BK256.out)):gb256≠gb262));have n6_:=zzm ((by rw [hg];exact Nat.ne_of_gt (blk_lt (g:=gb256) (o:=.cells #[.bool a0_0,.bool a0_1,.int .i64 a0_2,.int .i64 a0_3,.int .i64 a0_4,.slice (some ad261) l0_5.length c0_5] 27 (0,0)) (zzE BK256.out)):gb262≠gb256));clear BK256 HB;have BK256:=n0_;have HB:=n1_;have BK262:=n2_;have GW262:=n3_;have GE262:=n4_;have NB256_262:=n5_;have NB262_256:=n6_;clear n0_ n1_ n2_ n3_ n4_ n5_ n6_ hb hbox hg;have hnb61:=NB262_256.out;have hnc61:=NB256_262.out;obtain ⟨hcz62_0,hcz62_1,hcz62_2,hcz62_3,hcz62_4,hcz62_5,hfz62_0,hfz62_1,hfz62_2,hfz62_3,hfz62_4,hfz62_5⟩:=zzc6 BK262.out))
            have n0_:Aside0 (((((((w60.setCell ⟨gb262,0,none⟩ (.int .i64 ((rd_T34 l0_5 x54_3).f0))).setCell ⟨gb262,1,none⟩ (.int .i64 ((rd_T34 l0_5 x54_3).f1))).setCell ⟨gb262,2,none⟩ (.bool ((rd_T34 l0_5 x54_3).f2))).setCell ⟨gb262,3,none⟩ (.slice A261_3 ((rd_T34 l0_5 x54_3).f3).length c261_3)).setCell ⟨gb262,4,none⟩ (.bool ((rd_T34 l0_5 x54_3).f4))).setCell ⟨gb262,5,none⟩ (.slice A261_5 ((rd_T34 l0_5 x54_3).f5).length c261_5)).heap[gb256]? = some (.cells #[.bool a0_0,.bool a0_1,.int .i64 a0_2,.int .i64 a0_3,.int .i64 a0_4,.slice (some ad261) l0_5.length c0_5] 27 (0,0))):=⟨by (with_reducible repeat (first|apply zzf|apply zzg|apply zze));refine zzj ?_ NB256_262.out _;(with_reducible repeat (first|apply zzf|apply zzg|apply zze));refine zzj ?_ NB256_262.out _;(with_reducible repeat (first|apply zzf|apply zzg|apply zze));refine zzj ?_ NB256_262.out _;(with_reducible repeat (first|apply zzf|apply zzg|apply zze));refine zzj ?_ NB256_262.out _;(with_reducible repeat (first|apply zzf|apply zzg|apply zze));refine zzj ?_ NB256_262.out _;(with_reducible repeat (first|apply zzf|apply zzg|apply zze));refine zzj ?_ NB256_262.out _;(with_reducible repeat (first|apply zzf|apply zzg|apply zze));exact BK256.out⟩;have n1_:Aside0 (((((((w60.setCell ⟨gb262,0,none⟩ (.int .i64 ((rd_T34 l0_5 x54_3).f0))).setCell ⟨gb262,1,none⟩ (.int .i64 ((rd_T34 l0_5 x54_3).f1))).setCell ⟨gb262,2,none⟩ (.bool ((rd_T34 l0_5 x54_3).f2))).setCell ⟨gb262,3,none⟩ (.slice A261_3 ((rd_T34 l0_5 x54_3).f3).length c261_3)).setCell ⟨gb262,4,none⟩ (.bool ((rd_T34 l0_5 x54_3).f4))).setCell ⟨gb262,5,none⟩ (.slice A261_5 ((rd_T34 l0_5 x54_3).f5).length c261_5)).heap[gb262]? = some (.cells #[.int .i64 ((rd_T34 l0_5 x54_3).f0),.int .i64 ((rd_T34 l0_5 x54_3).f1),.bool ((rd_T34 l0_5 x54_3).f2),.slice A261_3 ((rd_T34 l0_5 x54_3).f3).length c261_3,.bool ((rd_T34 l0_5 x54_3).f4),.slice A261_5 ((rd_T34 l0_5 x54_3).f5).length c261_5] 34 (0,0))):=⟨by (with_reducible repeat (first|apply zzf|apply zzg|apply zze));refine zzi (cs:=#[.int .i64 ((rd_T34 l0_5 x54_3).f0),.int .i64 ((rd_T34 l0_5 x54_3).f1),.bool ((rd_T34 l0_5 x54_3).f2),.slice A261_3 ((rd_T34 l0_5 x54_3).f3).length c261_3,.bool ((rd_T34 l0_5 x54_3).f4),.slice none 0 0]) ?_ 5 _ rfl;(with_reducible repeat (first|apply zzf|apply zzg|apply zze));refine zzi (cs:=#[.int .i64 ((rd_T34 l0_5 x54_3).f0),.int .i64 ((rd_T34 l0_5 x54_3).f1),.bool ((rd_T34 l0_5 x54_3).f2),.slice A261_3 ((rd_T34 l0_5 x54_3).f3).length c261_3,.bool false,.slice none 0 0]) ?_ 4 _ rfl;(with_reducible repeat (first|apply zzf|apply zzg|apply zze));refine zzi (cs:=#[.int .i64 ((rd_T34 l0_5 x54_3).f0),.int .i64 ((rd_T34 l0_5 x54_3).f1),.bool ((rd_T34 l0_5 x54_3).f2),.slice none 0 0,.bool false,.slice none 0 0]) ?_ 3 _ rfl;(with_reducible repeat (first|apply zzf|apply zzg|apply zze));refine zzi (cs:=#[.int .i64 ((rd_T34 l0_5 x54_3).f0),.int .i64 ((rd_T34 l0_5 x54_3).f1),.bool false,.slice none 0 0,.bool false,.slice none 0 0]) ?_ 2 _ rfl;(with_reducible repeat (first|apply zzf|apply zzg|apply zze));refine zzi (cs:=#[.int .i64 ((rd_T34 l0_5 x54_3).f0),.int .i64 0,.bool false,.slice none 0 0,.bool false,.slice none 0 0]) ?_ 1 _ rfl;(with_reducible repeat (first|apply zzf|apply zzg|apply zze));refine zzi (cs:=#[.int .i64 0,.int .i64 0,.bool false,.slice none 0 0,.bool false,.slice none 0 0]) ?_ 0 _ rfl;(with_reducible repeat (first|apply zzf|apply zzg|apply zze));exact BK262.out⟩;have n2_:Aside0 (Below w.heap.size w ((((((w60.setCell ⟨gb262,0,none⟩ (.int .i64 ((rd_T34 l0_5 x54_3).f0))).setCell ⟨gb262,1,none⟩ (.int .i64 ((rd_T34 l0_5 x54_3).f1))).setCell ⟨gb262,2,none⟩ (.bool ((rd_T34 l0_5 x54_3).f2))).setCell ⟨gb262,3,none⟩ (.slice A261_3 ((rd_T34 l0_5 x54_3).f3).length c261_3)).setCell ⟨gb262,4,none⟩ (.bool ((rd_T34 l0_5 x54_3).f4))).setCell ⟨gb262,5,none⟩ (.slice A261_5 ((rd_T34 l0_5 x54_3).f5).length c261_5))):=⟨by repeat (first|(with_reducible first|exact HB.out|apply zza|apply zzb|apply zzc|refine zzd ?_ GE256.out|refine zzd ?_ GE262.out)|exact HB.out)⟩;(try clear BK256);(try clear BK262);(try clear HB);generalize ((((((w60.setCell ⟨gb262,0,none⟩ (.int .i64 ((rd_T34 l0_5 x54_3).f0))).setCell ⟨gb262,1,none⟩ (.int .i64 ((rd_T34 l0_5 x54_3).f1))).setCell ⟨gb262,2,none⟩ (.bool ((rd_T34 l0_5 x54_3).f2))).setCell ⟨gb262,3,none⟩ (.slice A261_3 ((rd_T34 l0_5 x54_3).f3).length c261_3)).setCell ⟨gb262,4,none⟩ (.bool ((rd_T34 l0_5 x54_3).f4))).setCell ⟨gb262,5,none⟩ (.slice A261_5 ((rd_T34 l0_5 x54_3).f5).length c261_5))=w63 at n0_ n1_ n2_ ⊢;have BK256:=n0_;have BK262:=n1_;have HB:=n2_;clear n0_ n1_ n2_;have n0_:=zzm (zzg BK256.out);have n1_:=zzm (zzg BK262.out);have n2_:=zzm (zzc HB.out);clear BK256 BK262 HB;have BK256:=n0_;have BK262:=n1_;have HB:=n2_;clear n0_ n1_ n2_;refine start_ (n:=19) (S:=fun w'=>w'.cell? ⟨gb262,0,none⟩=some (.int .i64 ((rd_T34 l0_5 x54_3).f0))∧w'.cell? ⟨gb262,1,none⟩=some (.int .i64 ((rd_T34 l0_5 x54_3).f1))∧w'.cell? ⟨gb262,2,none⟩=some (.bool ((rd_T34 l0_5 x54_3).f2))∧w'.cell? ⟨gb262,3,none⟩=some (.slice A261_3 ((rd_T34 l0_5 x54_3).f3).length c261_3)∧w'.cell? ⟨gb262,4,none⟩=some (.bool ((rd_T34 l0_5 x54_3).f4))∧w'.cell? ⟨gb262,5,none⟩=some (.slice A261_5 ((rd_T34 l0_5 x54_3).f5).length c261_5)) (ds:=[]) (zzB 19 0) (by kernel_rfl) rfl rfl ⟨(zzk BK262.out 0).trans rfl,(zzk BK262.out 1).trans rfl,(zzk BK262.out 2).trans rfl,(zzk BK262.out 3).trans rfl,(zzk BK262.out 4).trans rfl,(zzk BK262.out 5).trans rfl⟩ (fun hHeld=>?_);refine with_tabW impl_BatchValid.tab11 impl_BatchValid.bits11 (fun HT_ HW_=>?_);generalize w63.drew=w64 at BK256 BK262 HB hHeld ⊢;refine take_ (i:=0) (N:=some 59) (v:=?_) (a':=?_) (zzB 19 1) rfl rfl (take_ofW HT_.out HW_.out (by kernel_rfl)) (fun _ _ _ h=>h) (Or.inl ⟨by rfl,?_⟩) hHeld ?_ ?_;rotate_left
            ·
             rintro w' ⟨s0,s1,s2,s3,s4,s5⟩;go_simp;with_reducible rfl
            rotate_left
            ·
             simp only [Act.put,zzq,zzr,zzs,i64_w,i32_w];rfl
            refine one_ (i:=1) (N:=some 60) (zzB 19 3) rfl rfl (one_of HT_.out (by kernel_rfl)) (by decide) (fun K hK=>?_);refine goes_ Try.func58 (by kernel_rfl) rfl #[.agg #[.int .i64 ((rd_T34 l0_5 x54_3).f0),.int .i64 ((rd_T34 l0_5 x54_3).f1),.bool ((rd_T34 l0_5 x54_3).f2),.slice A261_3 ((rd_T34 l0_5 x54_3).f3).length c261_3,.bool ((rd_T34 l0_5 x54_3).f4),.slice A261_5 ((rd_T34 l0_5 x54_3).f5).length c261_5]] (by rfl) rfl rfl zzM2 ?_;with_reducible refine (impl_RecordValid.calls k3 ((rd_T34 l0_5 x54_3).f0) ((rd_T34 l0_5 x54_3).f1) ((rd_T34 l0_5 x54_3).f2) _ _ ((rd_T34 l0_5 x54_3).f3) ((rd_T34 l0_5 x54_3).f4) _ _ ((rd_T34 l0_5 x54_3).f5) false _ ?side1 ?side2 ?side3 ?side4 A35.out).mono ?_;(case side1=>repeat (first|exact (Kd.C_below HR261_3.out HB.out)|(with_reducible refine Kd.C_alloc ?_ _)|(with_reducible refine Kd.C_drewN ?_ _)|(with_reducible refine Kd.C_drew ?_)));(case side2=>exact HC261_3.out);(case side3=>repeat (first|exact (Kd.C_below HR261_5.out HB.out)|(with_reducible refine Kd.C_alloc ?_ _)|(with_reducible refine Kd.C_drewN ?_ _)|(with_reducible refine Kd.C_drew ?_)));(case side4=>exact HC261_5.out);rintro e w65 ⟨rfl,hb⟩;refine ⟨_,rfl,?_⟩;have n0_:=zzm (zzh (g:=gb256) (o:=.cells #[.bool a0_0,.bool a0_1,.int .i64 a0_2,.int .i64 a0_3,.int .i64 a0_4,.slice (some ad261) l0_5.length c0_5] 27 (0,0)) (zzE BK256.out) hb);have n1_:=zzm (zzh (g:=gb262) (o:=.cells #[.int .i64 ((rd_T34 l0_5 x54_3).f0),.int .i64 ((rd_T34 l0_5 x54_3).f1),.bool ((rd_T34 l0_5 x54_3).f2),.slice A261_3 ((rd_T34 l0_5 x54_3).f3).length c261_3,.bool ((rd_T34 l0_5 x54_3).f4),.slice A261_5 ((rd_T34 l0_5 x54_3).f5).length c261_5] 34 (0,0)) (zzE BK262.out) hb);have n2_:=zzm (zzp zzh2 hb);clear BK256 BK262 HB;have BK256:=n0_;have BK262:=n1_;have HB:=n2_;clear n0_ n1_ n2_;(try clear hb);(try clear hb2);(try clear hk);(try clear hi);refine hK.out _ _ ⟨(zzk BK262.out 0).trans rfl,(zzk BK262.out 1).trans rfl,(zzk BK262.out 2).trans rfl,(zzk BK262.out 3).trans rfl,(zzk BK262.out 4).trans rfl,(zzk BK262.out 5).trans rfl⟩ (fun hHeld=>?_);clear hK K;refine norm_ (a':=?_) ?_ ?_;rotate_left
            ·
             show Act.put _ (some 60) _ = _;simp only [Act.put,zzq,zzr,zzs,i64_w,i32_w];rfl
            refine pure_ (i:=2) (N:=some 61) (v:=?_) (a':=?_) (zzB 19 7) rfl rfl (zzA2 HT_.out) (fun _ _ _ h=>h) (Or.inl ⟨by rfl,?_⟩) ?_ ?_;rotate_left
            ·
             intro w';go_simp;with_reducible rfl
            rotate_left
            ·
             simp only [Act.put,zzq,zzr,zzs,i64_w,i32_w];rfl
            refine pure_ (i:=3) (N:=some 62) (v:=?_) (a':=?_) (zzB 19 15) rfl rfl (zzA2 HT_.out) (fun _ _ _ h=>h) (Or.inl ⟨by rfl,?_⟩) ?_ ?_;rotate_left
            ·
             intro w';go_simp;with_reducible rfl
            rotate_left
            ·
             simp only [Act.put,zzq,zzr,zzs,i64_w,i32_w];rfl
            refine pure_ (i:=4) (N:=some 63) (v:=undef) (a':=?_) (zzB 19 31) rfl rfl (zzA2 HT_.out) (fun _ _ _ h=>h) (Or.inr ⟨by rfl,rfl⟩) ?_ ?_;rotate_left
            ·
             simp only [Act.put,zzq,zzr,zzs,i64_w,i32_w];rfl
            refine pure_ (i:=5) (N:=some 64) (v:=undef) (a':=?_) (zzB 19 63) rfl rfl (zzA2 HT_.out) (fun _ _ _ h=>h) (Or.inr ⟨by rfl,rfl⟩) ?_ ?_;rotate_left
            ·
             simp only [Act.put,zzq,zzr,zzs,i64_w,i32_w];rfl
            refine pure_ (i:=6) (N:=some 65) (v:=undef) (a':=?_) (zzB 19 127) rfl rfl (zzA2 HT_.out) (fun _ _ _ h=>h) (Or.inr ⟨by rfl,rfl⟩) ?_ ?_;rotate_left
            ·
             simp only [Act.put,zzq,zzr,zzs,i64_w,i32_w];rfl
            refine pure_ (i:=7) (N:=some 66) (v:=undef) (a':=?_) (zzB 19 255) rfl rfl (zzA2 HT_.out) (fun _ _ _ h=>h) (Or.inr ⟨by rfl,rfl⟩) ?_ ?_;rotate_left
            ·
             simp only [Act.put,zzq,zzr,zzs,i64_w,i32_w];rfl
            refine pure_ (i:=8) (N:=some 67) (v:=undef) (a':=?_) (zzB 19 511) rfl rfl (zzA2 HT_.out) (fun _ _ _ h=>h) (Or.inr ⟨by rfl,rfl⟩) ?_ ?_;rotate_left
            ·
             simp only [Act.put,zzq,zzr,zzs,i64_w,i32_w];rfl
            refine pure_ (i:=9) (N:=some 68) (v:=undef) (a':=?_) (zzB 19 1023) rfl rfl (zzA2 HT_.out) (fun _ _ _ h=>h) (Or.inr ⟨by rfl,rfl⟩) ?_ ?_;rotate_left
            ·
             simp only [Act.put,zzq,zzr,zzs,i64_w,i32_w];rfl
            refine pure_ (i:=10) (N:=some 69) (v:=undef) (a':=?_) (zzB 19 2047) rfl rfl (zzA2 HT_.out) (fun _ _ _ h=>h) (Or.inr ⟨by rfl,rfl⟩) ?_ ?_;rotate_left
            ·
             simp only [Act.put,zzq,zzr,zzs,i64_w,i32_w];rfl
            refine pure_ (i:=11) (N:=some 70) (v:=undef) (a':=?_) (zzB 19 4095) rfl rfl (zzA2 HT_.out) (fun _ _ _ h=>h) (Or.inr ⟨by rfl,rfl⟩) ?_ ?_;rotate_left
            ·
             simp only [Act.put,zzq,zzr,zzs,i64_w,i32_w];rfl
            refine pure_ (i:=12) (N:=some 71) (v:=undef) (a':=?_) (zzB 19 8191) rfl rfl (zzA2 HT_.out) (fun _ _ _ h=>h) (Or.inr ⟨by rfl,rfl⟩) ?_ ?_;rotate_left
            ·
             simp only [Act.put,zzq,zzr,zzs,i64_w,i32_w];rfl
            refine pure_ (i:=13) (N:=some 72) (v:=undef) (a':=?_) (zzB 19 16383) rfl rfl (zzA2 HT_.out) (fun _ _ _ h=>h) (Or.inr ⟨by rfl,rfl⟩) ?_ ?_;rotate_left
            ·
             simp only [Act.put,zzq,zzr,zzs,i64_w,i32_w];rfl
            refine pure_ (i:=14) (N:=some 73) (v:=undef) (a':=?_) (zzB 19 32767) rfl rfl (zzA2 HT_.out) (fun _ _ _ h=>h) (Or.inr ⟨by rfl,rfl⟩) ?_ ?_;rotate_left
            ·
             simp only [Act.put,zzq,zzr,zzs,i64_w,i32_w];rfl
            refine pure_ (i:=15) (N:=some 74) (v:=undef) (a':=?_) (zzB 19 65535) rfl rfl (zzA2 HT_.out) (fun _ _ _ h=>h) (Or.inr ⟨by rfl,rfl⟩) ?_ ?_;rotate_left
            ·
             simp only [Act.put,zzq,zzr,zzs,i64_w,i32_w];rfl
            refine pure_ (i:=16) (N:=some 75) (v:=undef) (a':=?_) (zzB 19 131071) rfl rfl (zzA2 HT_.out) (fun _ _ _ h=>h) (Or.inr ⟨by rfl,rfl⟩) ?_ ?_;rotate_left
            ·
             simp only [Act.put,zzq,zzr,zzs,i64_w,i32_w];rfl
            refine pure_ (i:=17) (N:=some 76) (v:=undef) (a':=?_) (zzB 19 262143) rfl rfl (zzA2 HT_.out) (fun _ _ _ h=>h) (Or.inr ⟨by rfl,rfl⟩) ?_ ?_;rotate_left
            ·
             simp only [Act.put,zzq,zzr,zzs,i64_w,i32_w];rfl
            refine pure_ (i:=18) (N:=some 77) (v:=?_) (a':=?_) (zzB 19 524287) rfl rfl (zzA2 HT_.out) (fun _ _ _ h=>h) (Or.inl ⟨by rfl,?_⟩) ?_ ?_;rotate_left
            ·
             intro w';go_simp;with_reducible rfl
            rotate_left
            ·
             simp only [Act.put,zzq,zzr,zzs,i64_w,i32_w];rfl
            refine done_ (done_of HT_.out (by kernel_rfl)) ?_;try go_wp2
            go_ret;exact ⟨by first|rfl|(simp [errW_none,errW_some] <;> rfl)|(simp [*,errW_none,errW_some] <;> rfl),by repeat (first|(with_reducible first|exact HB.out|apply zza|apply zzb|apply zzc|refine zzd ?_ GE256.out|refine zzd ?_ GE262.out)|exact HB.out)⟩
          ·
           rw [if_neg c34] at H;exact absurd H (by simp)
         ·
          rw [if_neg c33] at H;exact absurd H (by simp)
        ·
         rw [if_neg c32] at H;have c32b0:decide (x54_3 < (l0_5.length:Int))=false:=decide_eq_false c32;clear c32;obtain rfl:=Option.some.inj H;go_wp2;go_ret;exact ⟨by first|rfl|(simp [errW_none,errW_some] <;> rfl)|(simp [*,errW_none,errW_some] <;> rfl),by repeat (first|(with_reducible first|exact HB.out|apply zza|apply zzb|apply zzc|refine zzd ?_ GE256.out)|exact HB.out)⟩
end Go.Proofs.Yticpnjhkdfdkkaa.T
