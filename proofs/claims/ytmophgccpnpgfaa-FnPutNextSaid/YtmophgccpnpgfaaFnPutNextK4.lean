/- The law FnPutNext holds (part 5 of 5; merged by pack2.py). -/
import Derived.ProofKit
import Derived.OpenShut
import Derived.ShutString
import Derived.ChangeOld
import Derived.Test.YtmophgccpnpgfaaFnPutNextK3
set_option maxRecDepth 1000000
open List (setIfInBounds_toArray set_cons_zero set_cons_succ map_toArray map_cons map_nil length_drop length_take)
namespace Go.Proofs.Ytmophgccpnpgfaa.T
open Go.RowKit Go.Proofs.YtmophgccpnpgfaaW.PrintWords Go.Proofs.YtmophgccpnpgfaaW.PrintLast Go.Proofs.YtmophgccpnpgfaaW.PrintMore
attribute [local go_sem] max2_int max_two
set_option linter.unusedVariables false
set_option linter.unusedSimpArgs false
def laws_FnPutNext.j0:Nat→List (S67)→Int→List (S67)→Int→Bool→Bool→Bool→Int→Int→Int→List (S75)→Option (Bool)
 | 0,_,_,_,_,_,_,_,_,_,_,_=>none
 | k+1,x5,x6,x7,x8,x42,x387000,x387001,x387002,x387003,x387004,x387005=>if x42=true then (if x6=x8 then ((Ql.f k x5 x7).bind fun t396=>(some t396)) else (some false)) else ((Qe.f k x387000 x387001 x387002 x387003 (wrap64 (x387004+(x387005.length:Int))) x387005).bind fun t398=>(if t398=true then ((Rg.f k x5 x387000 x387001 x387002 x387003 (wrap64 (x387004+(x387005.length:Int))) x387005).bind fun t399=>(some (t399==0))) else (some true)))
def laws_FnPutNext.f (k:Nat) (l0:List Int):Option (Bool):=if (l0.length:Int) > 1048576 then (some true) else ((Qy.f k l0).bind fun bt375=>((Qz.f k bt375.1 bt375.2.1 bt375.2.2.1 bt375.2.2.2.1 bt375.2.2.2.2.1 bt375.2.2.2.2.2.1 bt375.2.2.2.2.2.2).bind fun bt387=>((Ra.f k bt375.1 bt375.2.1 bt375.2.2.1 bt375.2.2.2.1 bt375.2.2.2.2.1 bt375.2.2.2.2.2.1 bt375.2.2.2.2.2.2).bind fun bt391=>(if bt387.2=bt391.2 then ((Ql.f k bt387.1 bt391.1).bind fun t395=>(if t395=true then (laws_FnPutNext.j0 k bt387.1 bt387.2 bt391.1 bt391.2 (bt387.2 != 0) bt375.2.1 bt375.2.2.1 bt375.2.2.2.1 bt375.2.2.2.2.1 bt375.2.2.2.2.2.1 bt375.2.2.2.2.2.2) else (laws_FnPutNext.j0 k bt387.1 bt387.2 bt391.1 bt391.2 true bt375.2.1 bt375.2.2.1 bt375.2.2.2.1 bt375.2.2.2.2.1 bt375.2.2.2.2.2.1 bt375.2.2.2.2.2.2))) else (laws_FnPutNext.j0 k bt387.1 bt387.2 bt391.1 bt391.2 true bt375.2.1 bt375.2.2.1 bt375.2.2.2.1 bt375.2.2.2.2.1 bt375.2.2.2.2.2.1 bt375.2.2.2.2.2.2)))))
set_option maxHeartbeats 8000000 in
theorem laws_FnPutNext.calls (k:Nat) (A0:Option Addr) (c0:Nat) (l0:List Int) (r:Bool) (w:World) (m3:Kd.C (Kd.int .u8) w A0 l0.length l0) (m4:l0.length≤c0) (h:laws_FnPutNext.f k l0=some r) :
  Calls Try.prog 3 #[.slice A0 l0.length c0] w fun e w'=>e = .returned (.bool r)∧Below w.heap.size w w':=by
 have hu26:=Try.underlying26;have x1:=zzm m3;have x2:=zzm m4;clear m3 m4;have HB:=zzm (Below.refl w.heap.size w);have H:(if (l0.length:Int) > 1048576 then (some true) else ((Qy.f k l0).bind fun b3=>((Qz.f k b3.1 b3.2.1 b3.2.2.1 b3.2.2.2.1 b3.2.2.2.2.1 b3.2.2.2.2.2.1 b3.2.2.2.2.2.2).bind fun b8=>((Ra.f k b3.1 b3.2.1 b3.2.2.1 b3.2.2.2.1 b3.2.2.2.2.1 b3.2.2.2.2.2.1 b3.2.2.2.2.2.2).bind fun b5=>(if b8.2=b5.2 then ((Ql.f k b8.1 b5.1).bind fun e1=>(if e1=true then (laws_FnPutNext.j0 k b8.1 b8.2 b5.1 b5.2 (b8.2 != 0) b3.2.1 b3.2.2.1 b3.2.2.2.1 b3.2.2.2.2.1 b3.2.2.2.2.2.1 b3.2.2.2.2.2.2) else (laws_FnPutNext.j0 k b8.1 b8.2 b5.1 b5.2 true b3.2.1 b3.2.2.1 b3.2.2.2.1 b3.2.2.2.2.1 b3.2.2.2.2.2.1 b3.2.2.2.2.2.2))) else (laws_FnPutNext.j0 k b8.1 b8.2 b5.1 b5.2 true b3.2.1 b3.2.2.1 b3.2.2.2.1 b3.2.2.2.2.1 b3.2.2.2.2.2.1 b3.2.2.2.2.2.2))))))=some r:=h;clear h;by_cases c2:(l0.length:Int) > 1048576
 ·
  rw [if_pos c2] at H;have k3:decide (1048576 < (l0.length:Int))=true:=decide_eq_true c2;have k4:decide (1048576 < l0.length)=true:=decide_eq_true (by omega);clear c2;obtain rfl:=Option.some.inj H;go_enter Try.func3,Try.ntmps3;go_wp2;go_ret;exact ⟨zzR,zzh1⟩
 ·
  rw [if_neg c2] at H;have k3:decide (1048576 < (l0.length:Int))=false:=decide_eq_false c2;have k4:decide (1048576 < l0.length)=false:=decide_eq_false (by omega);clear c2;replace H:=zzH H;obtain ⟨⟨d9,a3,a4,a5,a6,a2,a1⟩,m5,H⟩:=H;replace H:((Qz.f k d9 a3 a4 a5 a6 a2 a1).bind fun b8=>((Ra.f k d9 a3 a4 a5 a6 a2 a1).bind fun b5=>(if b8.2=b5.2 then ((Ql.f k b8.1 b5.1).bind fun e1=>(if e1=true then (laws_FnPutNext.j0 k b8.1 b8.2 b5.1 b5.2 (b8.2 != 0) a3 a4 a5 a6 a2 a1) else (laws_FnPutNext.j0 k b8.1 b8.2 b5.1 b5.2 true a3 a4 a5 a6 a2 a1))) else (laws_FnPutNext.j0 k b8.1 b8.2 b5.1 b5.2 true a3 a4 a5 a6 a2 a1))))=some r:=H;have A3:=zzm m5;clear m5;replace H:=zzH H;obtain ⟨⟨d4,d5⟩,m6,H⟩:=H;replace H:((Ra.f k d9 a3 a4 a5 a6 a2 a1).bind fun b5=>(if d5=b5.2 then ((Ql.f k d4 b5.1).bind fun e1=>(if e1=true then (laws_FnPutNext.j0 k d4 d5 b5.1 b5.2 (d5 != 0) a3 a4 a5 a6 a2 a1) else (laws_FnPutNext.j0 k d4 d5 b5.1 b5.2 true a3 a4 a5 a6 a2 a1))) else (laws_FnPutNext.j0 k d4 d5 b5.1 b5.2 true a3 a4 a5 a6 a2 a1)))=some r:=H;have A4:=zzm m6;clear m6;replace H:=zzH H;obtain ⟨⟨e0,e2⟩,m7,H⟩:=H;replace H:(if d5=e2 then ((Ql.f k d4 e0).bind fun e1=>(if e1=true then (laws_FnPutNext.j0 k d4 d5 e0 e2 (d5 != 0) a3 a4 a5 a6 a2 a1) else (laws_FnPutNext.j0 k d4 d5 e0 e2 true a3 a4 a5 a6 a2 a1))) else (laws_FnPutNext.j0 k d4 d5 e0 e2 true a3 a4 a5 a6 a2 a1))=some r:=H;have A5:=zzm m7;clear m7;have k5:=zzm H;clear H;go_enter Try.func3,Try.ntmps3;go_upto_region 6 with (first|((with_reducible refine gate_callee (f:=6) rfl ?_);refine goesL_ (some 15) rfl rfl Try.func6 (by kernel_rfl) rfl #[.slice A0 l0.length c0] rfl zzM2 ?_;(with_reducible refine (Qy.calls k _ _ l0 d9 a3 a4 a5 a6 a2 a1 _ ?side1 ?side2 A3.out).mono ?_);(case side1=>repeat (first|exact x1.out|(with_reducible refine Kd.C_alloc ?_ _)|(with_reducible refine Kd.C_drewN ?_ _)|(with_reducible refine Kd.C_drew ?_)));(case side2=>exact x2.out);rintro e w7 ⟨n0,y2,rfl,ho0,ho1,hb⟩;refine ⟨_,rfl,?_⟩;have c5:=zzm (Kd.R_lower (Kd.R_mono (ok':=fun k_=>True) ho0 (fun _ hk_=>trivial)) (zzo zzh1));have c9:=zzm (Kd.N_lower (Kd.N_mono (ok':=fun k_=>some k_≠(n0:Value).ownBlock) ho1 (fun k_ hk_=>hk_.2)) (zzo zzh1));have d0:=zzm (zzp zzh1 hb);clear HB;have c4:=c5;have b9:=c9;have HB:=d0;clear c5 c9 d0;(try clear hb);(try clear hb2);(try clear hk);(try clear hi);(try clear ho0);(try clear ho1))|((with_reducible refine gate_dst (N:=4) rfl ?_);refine box_event ?hg (N:=4) ?hd (cs:=#[.bool false,.bool false,.int .i64 0,.int .i64 0,.int .i64 0,.slice none 0 0]) (t:=26) ?hr ?_;(case hd=>rfl);(case hg=>rfl);(case hr=>first|(go_simp;done)|(go_simp;rfl));intro a7 hg w8 hbox hb;have c5:=zzm (Kd.R_below (by (with_reducible repeat (first|apply Kd.R_alloc|apply Kd.R_drewN|apply Kd.R_drew));exact c4.out) hb);have c9:=zzm (Kd.N_below (Kd.N_elderB (zzN b9.out) a7 (Nat.le_of_eq hg.symm)) hb);have d0:=zzm (zzp zzh1 hb);have d1:=zzm (hbox);have d2:=zzm ((by rw [hg];exact (zzo zzh1):w.heap.size≤a7));have d6:=zzm ((by rw [hg];exact (zzo zzh1):w.heap.size≤a7));clear c4 b9 HB;have c4:=c5;have b9:=c9;have HB:=d0;have a9:=d1;have x6:=d2;have x7:=d6;clear c5 c9 d0 d1 d2 d6 hb hbox hg;obtain ⟨k6,k7,k8,k9,l1,l2,l3,l4,l5,l6,l7,l8⟩:=zzc6 a9.out;obtain ⟨b1,b0,eo10⟩:=Kd.N_slice b9.out;subst eo10;obtain ⟨h0,e7,eo11⟩:=Kd.R_slice c4.out;subst eo11)|((with_reducible refine gate_callee (f:=7) rfl ?_);refine goesL_ (some 21) rfl rfl Try.func7 (by kernel_rfl) rfl #[.slice h0 d9.length e7,.agg #[.bool a3,.bool a4,.int .i64 a5,.int .i64 a6,.int .i64 a2,.slice b1 a1.length b0]] rfl zzM2 ?_;(with_reducible refine (Qz.calls k _ _ d9 a3 a4 a5 a6 a2 _ _ a1 d4 d5 _ ?side1 ?side2 ?side3 ?side4 A4.out).mono ?_);(case side1=>refine (Kd.R_reads' (e:=67) (base:=w.heap.size) (ok:=fun k_=>True) (n:=d9.length) (c:=e7) ?_).2.2;exact (by (with_reducible repeat (first|apply Kd.R_alloc|apply Kd.R_drewN|apply Kd.R_drew));exact (Kd.R_mono (Kd.R_far (p:=⟨a7,5,none⟩) (Kd.R_far (p:=⟨a7,4,none⟩) (Kd.R_far (p:=⟨a7,3,none⟩) (Kd.R_far (p:=⟨a7,2,none⟩) (Kd.R_far (p:=⟨a7,1,none⟩) (Kd.R_far (p:=⟨a7,0,none⟩) (Kd.R_types c4.out a9.out (by decide)) (fun _ hk=>hk.2) (.bool a3)) (fun _ hk=>hk.2) (.bool a4)) (fun _ hk=>hk.2) (.int .i64 a5)) (fun _ hk=>hk.2) (.int .i64 a6)) (fun _ hk=>hk.2) (.int .i64 a2)) (fun _ hk=>hk.2) (.slice b1 a1.length b0)) (fun _ h_=>h_.1))));(case side2=>exact (Kd.R_reads' c4.out).2.1);(case side3=>refine (Kd.N_reads' (e:=75) (base:=w.heap.size) (ok:=fun k_=>(some k_≠(.slice h0 d9.length e7:Value).ownBlock∧k_≠a7)) (n:=a1.length) (c:=b0) ?_).2.2;exact (zzN ((Kd.N_mono (Kd.N_far (p:=⟨a7,5,none⟩) (Kd.N_far (p:=⟨a7,4,none⟩) (Kd.N_far (p:=⟨a7,3,none⟩) (Kd.N_far (p:=⟨a7,2,none⟩) (Kd.N_far (p:=⟨a7,1,none⟩) (Kd.N_far (p:=⟨a7,0,none⟩) (Kd.N_mono b9.out (fun k_ hk=>(⟨hk,hk.2⟩:_∧k_≠a7))) (fun _ hk=>hk.2) (.bool a3)) (fun _ hk=>hk.2) (.bool a4)) (fun _ hk=>hk.2) (.int .i64 a5)) (fun _ hk=>hk.2) (.int .i64 a6)) (fun _ hk=>hk.2) (.int .i64 a2)) (fun _ hk=>hk.2) (.slice b1 a1.length b0)) (fun _ h_=>h_.1)))));(case side4=>exact (Kd.N_reads' b9.out).2.1);rintro e z7 ⟨h1,rfl,ho0,hb⟩;refine ⟨_,rfl,?_⟩;have c5:=zzm (Kd.R_elder' (by (with_reducible repeat (first|apply Kd.R_alloc|apply Kd.R_drewN|apply Kd.R_drew));exact (Kd.R_mono (Kd.R_far (p:=⟨a7,5,none⟩) (Kd.R_far (p:=⟨a7,4,none⟩) (Kd.R_far (p:=⟨a7,3,none⟩) (Kd.R_far (p:=⟨a7,2,none⟩) (Kd.R_far (p:=⟨a7,1,none⟩) (Kd.R_far (p:=⟨a7,0,none⟩) (Kd.R_types c4.out a9.out (by decide)) (fun _ hk=>hk.2) (.bool a3)) (fun _ hk=>hk.2) (.bool a4)) (fun _ hk=>hk.2) (.int .i64 a5)) (fun _ hk=>hk.2) (.int .i64 a6)) (fun _ hk=>hk.2) (.int .i64 a2)) (fun _ hk=>hk.2) (.slice b1 a1.length b0)) (fun _ h_=>h_.1))) (Kd.R_base ho0) hb);have c9:=zzm (Kd.N_elder' (zzN ((Kd.N_mono (Kd.N_far (p:=⟨a7,5,none⟩) (Kd.N_far (p:=⟨a7,4,none⟩) (Kd.N_far (p:=⟨a7,3,none⟩) (Kd.N_far (p:=⟨a7,2,none⟩) (Kd.N_far (p:=⟨a7,1,none⟩) (Kd.N_far (p:=⟨a7,0,none⟩) (Kd.N_mono b9.out (fun k_ hk=>(⟨hk,hk.2⟩:_∧k_≠a7))) (fun _ hk=>hk.2) (.bool a3)) (fun _ hk=>hk.2) (.bool a4)) (fun _ hk=>hk.2) (.int .i64 a5)) (fun _ hk=>hk.2) (.int .i64 a6)) (fun _ hk=>hk.2) (.int .i64 a2)) (fun _ hk=>hk.2) (.slice b1 a1.length b0)) (fun _ h_=>h_.1)))) (Kd.R_base ho0) hb);have d0:=zzm (Kd.R_lower (Kd.R_new' ho0 (Kd.R_lt (by (with_reducible repeat (first|apply Kd.R_alloc|apply Kd.R_drewN|apply Kd.R_drew));exact (Kd.R_mono (Kd.R_far (p:=⟨a7,5,none⟩) (Kd.R_far (p:=⟨a7,4,none⟩) (Kd.R_far (p:=⟨a7,3,none⟩) (Kd.R_far (p:=⟨a7,2,none⟩) (Kd.R_far (p:=⟨a7,1,none⟩) (Kd.R_far (p:=⟨a7,0,none⟩) (Kd.R_types c4.out a9.out (by decide)) (fun _ hk=>hk.2) (.bool a3)) (fun _ hk=>hk.2) (.bool a4)) (fun _ hk=>hk.2) (.int .i64 a5)) (fun _ hk=>hk.2) (.int .i64 a6)) (fun _ hk=>hk.2) (.int .i64 a2)) (fun _ hk=>hk.2) (.slice b1 a1.length b0)) (fun _ h_=>h_.1))))) (zzo zzh2));have d1:=zzm (zzh (g:=a7) (o:=.cells #[.bool a3,.bool a4,.int .i64 a5,.int .i64 a6,.int .i64 a2,.slice b1 a1.length b0] 26 (0,0)) (by (with_reducible repeat (first|apply zzf|apply zzg|apply zze));refine zzi (cs:=#[.bool a3,.bool a4,.int .i64 a5,.int .i64 a6,.int .i64 a2,.slice none 0 0]) ?_ 5 _ rfl;refine zzi (cs:=#[.bool a3,.bool a4,.int .i64 a5,.int .i64 a6,.int .i64 0,.slice none 0 0]) ?_ 4 _ rfl;refine zzi (cs:=#[.bool a3,.bool a4,.int .i64 a5,.int .i64 0,.int .i64 0,.slice none 0 0]) ?_ 3 _ rfl;refine zzi (cs:=#[.bool a3,.bool a4,.int .i64 0,.int .i64 0,.int .i64 0,.slice none 0 0]) ?_ 2 _ rfl;refine zzi (cs:=#[.bool a3,.bool false,.int .i64 0,.int .i64 0,.int .i64 0,.slice none 0 0]) ?_ 1 _ rfl;refine zzi (cs:=#[.bool false,.bool false,.int .i64 0,.int .i64 0,.int .i64 0,.slice none 0 0]) ?_ 0 _ rfl;(with_reducible repeat (first|apply zzf|apply zzg|apply zze));exact a9.out) hb);have d2:=zzm (zzp zzh2 hb);clear c4 b9 a9 HB;have c4:=c5;have b9:=c9;have d3:=d0;have a9:=d1;have HB:=d2;clear c5 c9 d0 d1 d2;(try clear hb);(try clear hb2);(try clear hk);(try clear hi);(try clear ho0);obtain ⟨h9,j2,j3,j4,j5,j6,j7,j8,j9,k0,k1,k2⟩:=zzc6 a9.out)|((with_reducible refine gate_callee (f:=8) rfl ?_);refine goesL_ (some 27) rfl rfl Try.func8 (by kernel_rfl) rfl #[.slice h0 d9.length e7,.agg #[.bool a3,.bool a4,.int .i64 a5,.int .i64 a6,.int .i64 a2,.slice b1 a1.length b0]] rfl zzM2 ?_;(with_reducible refine (Ra.calls k _ _ d9 a3 a4 a5 a6 a2 _ _ a1 e0 e2 _ ?side1 ?side2 ?side3 ?side4 A5.out).mono ?_);(case side1=>repeat (first|exact (Kd.R_reads' c4.out).2.2|(with_reducible refine Kd.C_alloc ?_ _)|(with_reducible refine Kd.C_drewN ?_ _)|(with_reducible refine Kd.C_drew ?_)));(case side2=>exact (Kd.R_reads' c4.out).2.1);(case side3=>repeat (first|exact (Kd.N_reads' b9.out).2.2|(with_reducible refine Kd.C_alloc ?_ _)|(with_reducible refine Kd.C_drewN ?_ _)|(with_reducible refine Kd.C_drew ?_)));(case side4=>exact (Kd.N_reads' b9.out).2.1);rintro e z8 ⟨h2,rfl,ho0,hb⟩;refine ⟨_,rfl,?_⟩;have c5:=zzm (Kd.R_elder' (by (with_reducible repeat (first|apply Kd.R_alloc|apply Kd.R_drewN|apply Kd.R_drew));exact c4.out) (Kd.R_base ho0) hb);have c9:=zzm (Kd.N_elder' (zzN b9.out) (Kd.R_base ho0) hb);have d0:=zzm (Kd.R_elder' (by (with_reducible repeat (first|apply Kd.R_alloc|apply Kd.R_drewN|apply Kd.R_drew));exact d3.out) (Kd.R_base ho0) hb);have d1:=zzm (Kd.R_lower (Kd.R_new' (Kd.R_new' ho0 (Kd.R_lt (by (with_reducible repeat (first|apply Kd.R_alloc|apply Kd.R_drewN|apply Kd.R_drew));exact c4.out))) (Kd.R_lt (by (with_reducible repeat (first|apply Kd.R_alloc|apply Kd.R_drewN|apply Kd.R_drew));exact d3.out))) (zzo zzh2));have d2:=zzm (zzh (g:=a7) (o:=.cells #[.bool a3,.bool a4,.int .i64 a5,.int .i64 a6,.int .i64 a2,.slice b1 a1.length b0] 26 (0,0)) (zzE a9.out) hb);have d6:=zzm (zzp zzh2 hb);clear c4 b9 d3 a9 HB;have c4:=c5;have b9:=c9;have d3:=d0;have d8:=d1;have a9:=d2;have HB:=d6;clear c5 c9 d0 d1 d2 d6;(try clear hb);(try clear hb2);(try clear hk);(try clear hi);(try clear ho0)))
  (try simp only [Act.put,zzq,zzr,zzs]);go_cut [42] (fun x3 wc=>∃ (kq:Nat) (e5:Bool),x3 = .bool e5∧Aside0 (laws_FnPutNext.j0 kq d4 d5 e0 e2 e5 a3 a4 a5 a6 a2 a1=some r)∧Aside0 (kq≤k)∧Aside0 (Kd.R k67 67 wc w.heap.size (fun k_=>some k_≠(h2:Value).ownBlock) h1 d4)∧Aside0 (Kd.R k67 67 wc w.heap.size (fun k_=>some k_≠(h1:Value).ownBlock) h2 e0)∧Aside0 (Kd.N k75 75 wc w.heap.size (fun k_=>some k_≠(h1:Value).ownBlock∧some k_≠(h2:Value).ownBlock∧k_≠a7) (.slice b1 a1.length b0) a1)∧Aside0 (wc.heap[a7]? = some (.cells #[.bool a3,.bool a4,.int .i64 a5,.int .i64 a6,.int .i64 a2,(.slice b1 a1.length b0)] 26 (0,0)))∧Aside0 (Below w.heap.size w wc))
  case first=>
   have H:=k5.out;clear k5;by_cases e6:d5=e2
   ·
    rw [if_pos e6] at H;obtain ⟨e4,h3⟩:=zzQ e6;clear e6
    (first|rw [e4]|(simp only [i64_w,i32_w];rw [e4])|skip);obtain ⟨e1,m8,H⟩:=zzG H;by_cases e8:e1=true
    ·
     subst e8;replace H:=zzIt H;have H':=zzm H;clear H;obtain ⟨y3,y4,eo18⟩:=Kd.R_slice d3.out;subst eo18;obtain ⟨y5,y6,eo19⟩:=Kd.R_slice d8.out;subst eo19;go_wp2_with (first|(go_at_call 9;(with_reducible refine (Ql.calls k _ _ d4 _ _ e0 true _ ?side1 ?side2 ?side3 ?side4 m8.out).mono ?_);(case side1=>repeat (first|exact (Kd.R_reads' d3.out).2.2|(with_reducible refine Kd.C_alloc ?_ _)|(with_reducible refine Kd.C_drewN ?_ _)|(with_reducible refine Kd.C_drew ?_)));(case side2=>exact (Kd.R_reads' d3.out).2.1);(case side3=>repeat (first|exact (Kd.R_reads' d8.out).2.2|(with_reducible refine Kd.C_alloc ?_ _)|(with_reducible refine Kd.C_drewN ?_ _)|(with_reducible refine Kd.C_drew ?_)));(case side4=>exact (Kd.R_reads' d8.out).2.1);rintro e w' ⟨rfl,⟨nd,rfl⟩⟩));go_meet
     case rel=>exact ⟨_,((d5 != 0)),(by first|rfl|(simp;done)|(simp [*];done)),H',⟨by first|omega|exact Nat.le_refl _⟩,⟨by (with_reducible repeat (first|apply Kd.R_alloc|apply Kd.R_drewN|apply Kd.R_drew));exact Kd.R_mono d3.out (fun _ hk=>hk.2)⟩,⟨by (with_reducible repeat (first|apply Kd.R_alloc|apply Kd.R_drewN|apply Kd.R_drew));exact Kd.R_mono d8.out (fun _ hk=>hk.2)⟩,⟨by (with_reducible repeat (first|apply Kd.N_alloc|apply Kd.N_drewN|apply Kd.N_drew));exact Kd.N_mono b9.out (fun _ hk=>⟨hk.1.2,⟨hk.2,hk.1.1.2⟩⟩)⟩,⟨zzE a9.out⟩,⟨zzh3⟩⟩
    ·
     replace e8:=Bool.eq_false_iff.mpr e8;subst e8;replace H:=zzIf H;have H':=zzm H;clear H;obtain ⟨y7,y8,eo20⟩:=Kd.R_slice d3.out;subst eo20;obtain ⟨y9,z0,eo21⟩:=Kd.R_slice d8.out;subst eo21;go_wp2_with (first|(go_at_call 9;(with_reducible refine (Ql.calls k _ _ d4 _ _ e0 false _ ?side1 ?side2 ?side3 ?side4 m8.out).mono ?_);(case side1=>repeat (first|exact (Kd.R_reads' d3.out).2.2|(with_reducible refine Kd.C_alloc ?_ _)|(with_reducible refine Kd.C_drewN ?_ _)|(with_reducible refine Kd.C_drew ?_)));(case side2=>exact (Kd.R_reads' d3.out).2.1);(case side3=>repeat (first|exact (Kd.R_reads' d8.out).2.2|(with_reducible refine Kd.C_alloc ?_ _)|(with_reducible refine Kd.C_drewN ?_ _)|(with_reducible refine Kd.C_drew ?_)));(case side4=>exact (Kd.R_reads' d8.out).2.1);rintro e w' ⟨rfl,⟨nd,rfl⟩⟩));go_meet
     case rel=>exact ⟨_,(true),(by first|rfl|(simp;done)|(simp [*];done)),H',⟨by first|omega|exact Nat.le_refl _⟩,⟨by (with_reducible repeat (first|apply Kd.R_alloc|apply Kd.R_drewN|apply Kd.R_drew));exact Kd.R_mono d3.out (fun _ hk=>hk.2)⟩,⟨by (with_reducible repeat (first|apply Kd.R_alloc|apply Kd.R_drewN|apply Kd.R_drew));exact Kd.R_mono d8.out (fun _ hk=>hk.2)⟩,⟨by (with_reducible repeat (first|apply Kd.N_alloc|apply Kd.N_drewN|apply Kd.N_drew));exact Kd.N_mono b9.out (fun _ hk=>⟨hk.1.2,⟨hk.2,hk.1.1.2⟩⟩)⟩,⟨zzE a9.out⟩,⟨zzh3⟩⟩
   ·
    rw [if_neg e6] at H;obtain ⟨e4,h3⟩:=zzY e6
    (first|rw [e4]|(simp only [i64_w,i32_w];rw [e4])|skip);have H':=zzm H;clear H;go_wp2;go_meet
    case rel=>exact ⟨_,(true),(by first|rfl|(simp;done)|(simp [*];done)),H',⟨by first|omega|exact Nat.le_refl _⟩,⟨by (with_reducible repeat (first|apply Kd.R_alloc|apply Kd.R_drewN|apply Kd.R_drew));exact Kd.R_mono d3.out (fun _ hk=>hk.2)⟩,⟨by (with_reducible repeat (first|apply Kd.R_alloc|apply Kd.R_drewN|apply Kd.R_drew));exact Kd.R_mono d8.out (fun _ hk=>hk.2)⟩,⟨by (with_reducible repeat (first|apply Kd.N_alloc|apply Kd.N_drewN|apply Kd.N_drew));exact Kd.N_mono b9.out (fun _ hk=>⟨hk.1.2,⟨hk.2,hk.1.1.2⟩⟩)⟩,⟨zzE a9.out⟩,⟨zzh3⟩⟩
  case rest=>
   clear k5;try clear c1
   try clear c2
   try clear k3
   try clear k4
   try clear p2
   try clear c3
   try clear c6
   try clear c7
   try clear c8
   try clear e6
   try clear e4
   try clear h3
   try clear e8
   try clear h9
   try clear j2
   try clear j3
   try clear j4
   try clear j5
   try clear j6
   try clear k6
   try clear k7
   try clear k8
   try clear k9
   try clear l1
   try clear l2
   try clear j7
   try clear j8
   try clear j9
   try clear k0
   try clear k1
   try clear k2
   try clear l3
   try clear l4
   try clear l5
   try clear l6
   try clear l7
   try clear l8
   obtain ⟨kq,e5,rfl,HA,HJ5,b6,b7,a8,a9,HB⟩:=hcut;cases kq with
   | zero=>exact absurd HA.out (by simp [laws_FnPutNext.j0])
   | succ h4=>
    have H:=HA.out;clear HA;simp only [laws_FnPutNext.j0] at H;by_cases h5:e5=true
    ·
     subst h5;replace H:=zzIt H;by_cases e9:d5=e2
     ·
      rw [if_pos e9] at H;obtain ⟨l9,m0⟩:=zzQ e9;clear e9;obtain ⟨n1,x4,H⟩:=zzG H;obtain rfl:=Option.some.inj H;obtain ⟨z1,z2,eo25⟩:=Kd.R_slice b6.out;subst eo25;obtain ⟨z3,z4,eo26⟩:=Kd.R_slice b7.out;subst eo26;go_wp2_with (first|(go_at_call 9;(with_reducible refine (Ql.calls h4 _ _ d4 _ _ e0 n1 _ ?side1 ?side2 ?side3 ?side4 x4.out).mono ?_);(case side1=>repeat (first|exact (Kd.R_reads' b6.out).2.2|(with_reducible refine Kd.C_alloc ?_ _)|(with_reducible refine Kd.C_drewN ?_ _)|(with_reducible refine Kd.C_drew ?_)));(case side2=>exact (Kd.R_reads' b6.out).2.1);(case side3=>repeat (first|exact (Kd.R_reads' b7.out).2.2|(with_reducible refine Kd.C_alloc ?_ _)|(with_reducible refine Kd.C_drewN ?_ _)|(with_reducible refine Kd.C_drew ?_)));(case side4=>exact (Kd.R_reads' b7.out).2.1);rintro e w' ⟨rfl,⟨nd,rfl⟩⟩));go_ret;exact ⟨zzR,zzh3⟩
     ·
      rw [if_neg e9] at H;obtain ⟨l9,m0⟩:=zzY e9;obtain rfl:=Option.some.inj H;go_wp2;go_ret;exact ⟨zzR,zzh3⟩
    ·
     replace h5:=Bool.eq_false_iff.mpr h5;subst h5;replace H:=zzIf H;obtain ⟨n2,m9,H⟩:=zzG H;by_cases h6:n2=true
     ·
      subst h6;replace H:=zzIt H;obtain ⟨n3,x5,H⟩:=zzG H;obtain rfl:=Option.some.inj H;obtain ⟨n4,n5,n6,n7,n8,n9,o0,o1,o2,o3,o4,o5⟩:=zzc6 a9.out;go_upto_region 10 with (first|((with_reducible refine gate_dst (N:=9) rfl ?_);refine box_event ?hg (N:=9) ?hd (cs:=#[.bool false,.bool false,.int .i64 0,.int .i64 0,.int .i64 0,.slice none 0 0]) (t:=26) ?hr ?_;(case hd=>rfl);(case hg=>rfl);(case hr=>first|(go_simp;done)|(go_simp;rfl));intro a0 hg h7 hbox hb;have c5:=zzm (Kd.R_below (by (with_reducible repeat (first|apply Kd.R_alloc|apply Kd.R_drewN|apply Kd.R_drew));exact b6.out) hb);have c9:=zzm (Kd.R_below (by (with_reducible repeat (first|apply Kd.R_alloc|apply Kd.R_drewN|apply Kd.R_drew));exact b7.out) hb);have d0:=zzm (Kd.N_below (Kd.N_elderB (zzN a8.out) a0 (Nat.le_of_eq hg.symm)) hb);have d1:=zzm (zzh (g:=a7) (o:=.cells #[.bool a3,.bool a4,.int .i64 a5,.int .i64 a6,.int .i64 a2,.slice b1 a1.length b0] 26 (0,0)) (zzE a9.out) hb);have d2:=zzm (zzp zzh2 hb);have d6:=zzm (hbox);have g0:=zzm ((by rw [hg];exact (zzo zzh2):w.heap.size≤a0));have g1:=zzm ((by rw [hg];exact (zzo zzh2):w.heap.size≤a0));have g2:=zzm ((by rw [hg];exact Nat.ne_of_lt (blk_lt (g:=a7) (o:=.cells #[.bool a3,.bool a4,.int .i64 a5,.int .i64 a6,.int .i64 a2,.slice b1 a1.length b0] 26 (0,0)) (zzE a9.out)):a7≠a0));have g3:=zzm ((by rw [hg];exact Nat.ne_of_gt (blk_lt (g:=a7) (o:=.cells #[.bool a3,.bool a4,.int .i64 a5,.int .i64 a6,.int .i64 a2,.slice b1 a1.length b0] 26 (0,0)) (zzE a9.out)):a0≠a7));clear b6 b7 a8 a9 HB;have b6:=c5;have b7:=c9;have a8:=d0;have a9:=d1;have HB:=d2;have b2:=d6;have m1:=g0;have m2:=g1;have b4:=g2;have e3:=g3;clear c5 c9 d0 d1 d2 d6 g0 g1 g2 g3 hb hbox hg;have x8:=e3.out;have x9:=b4.out;obtain ⟨o6,o7,o8,o9,p0,p1,p3,p4,p5,p6,p7,p8⟩:=zzc6 b2.out;obtain ⟨p9,q0,q1,q2,q3,q4,q5,q6,q7,q8,q9,r0⟩:=zzc6 a9.out));have g4:=zzm (Kd.R_mono (Kd.R_far (p:=⟨a0,4,none⟩) (Kd.R_far (p:=⟨a0,5,none⟩) (Kd.R_far (p:=⟨a0,4,none⟩) (Kd.R_far (p:=⟨a0,3,none⟩) (Kd.R_far (p:=⟨a0,2,none⟩) (Kd.R_far (p:=⟨a0,1,none⟩) (Kd.R_far (p:=⟨a0,0,none⟩) (Kd.R_types b6.out b2.out (by decide)) (fun _ hk=>hk.2) (.bool a3)) (fun _ hk=>hk.2) (.bool a4)) (fun _ hk=>hk.2) (.int .i64 a5)) (fun _ hk=>hk.2) (.int .i64 a6)) (fun _ hk=>hk.2) (.int .i64 a2)) (fun _ hk=>hk.2) (.slice b1 a1.length b0)) (fun _ hk=>hk.2) (.int .i64 (wrap64 (a2+(a1.length:Int))))) (fun _ h_=>h_.1));have g5:=zzm (Kd.R_mono (Kd.R_far (p:=⟨a0,4,none⟩) (Kd.R_far (p:=⟨a0,5,none⟩) (Kd.R_far (p:=⟨a0,4,none⟩) (Kd.R_far (p:=⟨a0,3,none⟩) (Kd.R_far (p:=⟨a0,2,none⟩) (Kd.R_far (p:=⟨a0,1,none⟩) (Kd.R_far (p:=⟨a0,0,none⟩) (Kd.R_types b7.out b2.out (by decide)) (fun _ hk=>hk.2) (.bool a3)) (fun _ hk=>hk.2) (.bool a4)) (fun _ hk=>hk.2) (.int .i64 a5)) (fun _ hk=>hk.2) (.int .i64 a6)) (fun _ hk=>hk.2) (.int .i64 a2)) (fun _ hk=>hk.2) (.slice b1 a1.length b0)) (fun _ hk=>hk.2) (.int .i64 (wrap64 (a2+(a1.length:Int))))) (fun _ h_=>h_.1));have g6:=zzm (Kd.N_mono (Kd.N_far (p:=⟨a0,4,none⟩) (Kd.N_far (p:=⟨a0,5,none⟩) (Kd.N_far (p:=⟨a0,4,none⟩) (Kd.N_far (p:=⟨a0,3,none⟩) (Kd.N_far (p:=⟨a0,2,none⟩) (Kd.N_far (p:=⟨a0,1,none⟩) (Kd.N_far (p:=⟨a0,0,none⟩) (Kd.N_mono a8.out (fun k_ hk=>(⟨hk,hk.2⟩:_∧k_≠a0))) (fun _ hk=>hk.2) (.bool a3)) (fun _ hk=>hk.2) (.bool a4)) (fun _ hk=>hk.2) (.int .i64 a5)) (fun _ hk=>hk.2) (.int .i64 a6)) (fun _ hk=>hk.2) (.int .i64 a2)) (fun _ hk=>hk.2) (.slice b1 a1.length b0)) (fun _ hk=>hk.2) (.int .i64 (wrap64 (a2+(a1.length:Int))))) (fun _ h_=>h_.1));have g7:Aside0 ((((((((h7.setCell ⟨a0,0,none⟩ (.bool a3)).setCell ⟨a0,1,none⟩ (.bool a4)).setCell ⟨a0,2,none⟩ (.int .i64 a5)).setCell ⟨a0,3,none⟩ (.int .i64 a6)).setCell ⟨a0,4,none⟩ (.int .i64 a2)).setCell ⟨a0,5,none⟩ (.slice b1 a1.length b0)).setCell ⟨a0,4,none⟩ (.int .i64 (wrap64 (a2+(a1.length:Int))))).heap[a7]? = some (.cells #[.bool a3,.bool a4,.int .i64 a5,.int .i64 a6,.int .i64 a2,.slice b1 a1.length b0] 26 (0,0))):=⟨(by (with_reducible repeat (first|apply zzf|apply zzg|apply zze));refine zzj ?_ b4.out _;(with_reducible repeat (first|apply zzf|apply zzg|apply zze));refine zzj ?_ b4.out _;(with_reducible repeat (first|apply zzf|apply zzg|apply zze));refine zzj ?_ b4.out _;(with_reducible repeat (first|apply zzf|apply zzg|apply zze));refine zzj ?_ b4.out _;(with_reducible repeat (first|apply zzf|apply zzg|apply zze));refine zzj ?_ b4.out _;(with_reducible repeat (first|apply zzf|apply zzg|apply zze));refine zzj ?_ b4.out _;(with_reducible repeat (first|apply zzf|apply zzg|apply zze));refine zzj ?_ b4.out _;(with_reducible repeat (first|apply zzf|apply zzg|apply zze));exact a9.out)⟩;have g8:Aside0 ((((((((h7.setCell ⟨a0,0,none⟩ (.bool a3)).setCell ⟨a0,1,none⟩ (.bool a4)).setCell ⟨a0,2,none⟩ (.int .i64 a5)).setCell ⟨a0,3,none⟩ (.int .i64 a6)).setCell ⟨a0,4,none⟩ (.int .i64 a2)).setCell ⟨a0,5,none⟩ (.slice b1 a1.length b0)).setCell ⟨a0,4,none⟩ (.int .i64 (wrap64 (a2+(a1.length:Int))))).heap[a0]? = some (.cells #[.bool a3,.bool a4,.int .i64 a5,.int .i64 a6,.int .i64 (wrap64 (a2+(a1.length:Int))),.slice b1 a1.length b0] 26 (0,0))):=⟨(by (with_reducible repeat (first|apply zzf|apply zzg|apply zze));refine zzi (cs:=#[.bool a3,.bool a4,.int .i64 a5,.int .i64 a6,.int .i64 a2,.slice b1 a1.length b0]) ?_ 4 _ rfl;refine zzi (cs:=#[.bool a3,.bool a4,.int .i64 a5,.int .i64 a6,.int .i64 a2,.slice none 0 0]) ?_ 5 _ rfl;refine zzi (cs:=#[.bool a3,.bool a4,.int .i64 a5,.int .i64 a6,.int .i64 0,.slice none 0 0]) ?_ 4 _ rfl;refine zzi (cs:=#[.bool a3,.bool a4,.int .i64 a5,.int .i64 0,.int .i64 0,.slice none 0 0]) ?_ 3 _ rfl;refine zzi (cs:=#[.bool a3,.bool a4,.int .i64 0,.int .i64 0,.int .i64 0,.slice none 0 0]) ?_ 2 _ rfl;refine zzi (cs:=#[.bool a3,.bool false,.int .i64 0,.int .i64 0,.int .i64 0,.slice none 0 0]) ?_ 1 _ rfl;refine zzi (cs:=#[.bool false,.bool false,.int .i64 0,.int .i64 0,.int .i64 0,.slice none 0 0]) ?_ 0 _ rfl;(with_reducible repeat (first|apply zzf|apply zzg|apply zze));exact b2.out)⟩;have g9:Aside0 (Below w.heap.size w (((((((h7.setCell ⟨a0,0,none⟩ (.bool a3)).setCell ⟨a0,1,none⟩ (.bool a4)).setCell ⟨a0,2,none⟩ (.int .i64 a5)).setCell ⟨a0,3,none⟩ (.int .i64 a6)).setCell ⟨a0,4,none⟩ (.int .i64 a2)).setCell ⟨a0,5,none⟩ (.slice b1 a1.length b0)).setCell ⟨a0,4,none⟩ (.int .i64 (wrap64 (a2+(a1.length:Int)))))):=⟨zzh3⟩;clear b6 b7 a8 a9 b2 HB;have b6:=g4;have b7:=g5;have a8:=g6;have a9:=g7;have b2:=g8;have HB:=g9;clear g4 g5 g6 g7 g8 g9;generalize hch_:(((((((h7.setCell ⟨a0,0,none⟩ (.bool a3)).setCell ⟨a0,1,none⟩ (.bool a4)).setCell ⟨a0,2,none⟩ (.int .i64 a5)).setCell ⟨a0,3,none⟩ (.int .i64 a6)).setCell ⟨a0,4,none⟩ (.int .i64 a2)).setCell ⟨a0,5,none⟩ (.slice b1 a1.length b0)).setCell ⟨a0,4,none⟩ (.int .i64 (wrap64 (a2+(a1.length:Int)))))=d7 at b6 b7 a8 a9 b2 HB ⊢;clear hch_;have hq0_:d7.cell? ⟨a0,0,none⟩=some (.bool a3):=(zzk b2.out 0).trans rfl;have hq1_:d7.cell? ⟨a0,1,none⟩=some (.bool a4):=(zzk b2.out 1).trans rfl;have hq2_:d7.cell? ⟨a0,2,none⟩=some (.int .i64 a5):=(zzk b2.out 2).trans rfl;have hq3_:d7.cell? ⟨a0,3,none⟩=some (.int .i64 a6):=(zzk b2.out 3).trans rfl;have hq4_:d7.cell? ⟨a0,4,none⟩=some (.int .i64 (wrap64 (a2+(a1.length:Int)))):=(zzk b2.out 4).trans rfl;have hq5_:d7.cell? ⟨a0,5,none⟩=some (.slice b1 a1.length b0):=(zzk b2.out 5).trans rfl;go_wp2_with (first|((with_reducible refine gate_callee (f:=10) rfl ?_);refine goesL_ (some 60) rfl rfl Try.func10 (by kernel_rfl) rfl #[.agg #[.bool a3,.bool a4,.int .i64 a5,.int .i64 a6,.int .i64 (wrap64 (a2+(a1.length:Int))),.slice b1 a1.length b0]] rfl zzM2 ?_;(with_reducible refine (Qe.calls h4 a3 a4 a5 a6 (wrap64 (a2+(a1.length:Int))) _ _ a1 true _ ?side1 ?side2 m9.out).mono ?_);(case side1=>exact (Kd.N_reads' a8.out).2.2);(case side2=>exact (Kd.N_reads' a8.out).2.1);rintro e z9 ⟨rfl,hb⟩;refine ⟨_,rfl,?_⟩;have c5:=zzm (Kd.R_below (by (with_reducible repeat (first|apply Kd.R_alloc|apply Kd.R_drewN|apply Kd.R_drew));exact b6.out) hb);have c9:=zzm (Kd.R_below (by (with_reducible repeat (first|apply Kd.R_alloc|apply Kd.R_drewN|apply Kd.R_drew));exact b7.out) hb);have d0:=zzm (Kd.N_below (zzN a8.out) hb);have d1:=zzm (zzh (g:=a7) (o:=.cells #[.bool a3,.bool a4,.int .i64 a5,.int .i64 a6,.int .i64 a2,.slice b1 a1.length b0] 26 (0,0)) (zzE a9.out) hb);have d2:=zzm (zzh (g:=a0) (o:=.cells #[.bool a3,.bool a4,.int .i64 a5,.int .i64 a6,.int .i64 (wrap64 (a2+(a1.length:Int))),.slice b1 a1.length b0] 26 (0,0)) (zzE b2.out) hb);have d6:=zzm (zzp zzh2 hb);clear b6 b7 a8 a9 b2 HB;have b6:=c5;have b7:=c9;have a8:=d0;have a9:=d1;have b2:=d2;have HB:=d6;clear c5 c9 d0 d1 d2 d6;(try clear hb);(try clear hb2);(try clear hk);(try clear hi);obtain ⟨r1,r2,r3,r4,r5,r6,r7,r8,r9,s0,s1,s2⟩:=zzc6 b2.out;obtain ⟨z5,z6,eo37⟩:=Kd.R_slice b6.out;subst eo37)|(go_at_call 11;(with_reducible refine (Rg.calls h4 _ _ d4 a3 a4 a5 a6 (wrap64 (a2+(a1.length:Int))) _ _ a1 n3 _ ?side1 ?side2 ?side3 ?side4 x5.out).mono ?_);(case side1=>repeat (first|exact (Kd.R_reads' b6.out).2.2|(with_reducible refine Kd.C_alloc ?_ _)|(with_reducible refine Kd.C_drewN ?_ _)|(with_reducible refine Kd.C_drew ?_)));(case side2=>exact (Kd.R_reads' b6.out).2.1);(case side3=>repeat (first|exact (Kd.N_reads' a8.out).2.2|(with_reducible refine Kd.C_alloc ?_ _)|(with_reducible refine Kd.C_drewN ?_ _)|(with_reducible refine Kd.C_drew ?_)));(case side4=>exact (Kd.N_reads' a8.out).2.1);rintro e A1 ⟨rfl,hb⟩;have c5:=zzm (Kd.R_below (by (with_reducible repeat (first|apply Kd.R_alloc|apply Kd.R_drewN|apply Kd.R_drew));exact b6.out) hb);have c9:=zzm (Kd.R_below (by (with_reducible repeat (first|apply Kd.R_alloc|apply Kd.R_drewN|apply Kd.R_drew));exact b7.out) hb);have d0:=zzm (Kd.N_below (zzN a8.out) hb);have d1:=zzm (zzh (g:=a7) (o:=.cells #[.bool a3,.bool a4,.int .i64 a5,.int .i64 a6,.int .i64 a2,.slice b1 a1.length b0] 26 (0,0)) (zzE a9.out) hb);have d2:=zzm (zzh (g:=a0) (o:=.cells #[.bool a3,.bool a4,.int .i64 a5,.int .i64 a6,.int .i64 (wrap64 (a2+(a1.length:Int))),.slice b1 a1.length b0] 26 (0,0)) (zzE b2.out) hb);have d6:=zzm (zzp zzh2 hb);clear b6 b7 a8 a9 b2 HB;have b6:=c5;have b7:=c9;have a8:=d0;have a9:=d1;have b2:=d2;have HB:=d6;clear c5 c9 d0 d1 d2 d6;(try clear hb);(try clear hb2);(try clear hk);(try clear hi)));go_ret;exact ⟨zzR,zzh3⟩
     ·
      replace h6:=Bool.eq_false_iff.mpr h6;subst h6;replace H:=zzIf H;obtain rfl:=Option.some.inj H;obtain ⟨s3,s4,s5,s6,s7,s8,s9,t0,t1,t2,t3,t4⟩:=zzc6 a9.out;go_upto_region 10 with (first|((with_reducible refine gate_dst (N:=9) rfl ?_);refine box_event ?hg (N:=9) ?hd (cs:=#[.bool false,.bool false,.int .i64 0,.int .i64 0,.int .i64 0,.slice none 0 0]) (t:=26) ?hr ?_;(case hd=>rfl);(case hg=>rfl);(case hr=>first|(go_simp;done)|(go_simp;rfl));intro a0 hg h8 hbox hb;have c5:=zzm (Kd.R_below (by (with_reducible repeat (first|apply Kd.R_alloc|apply Kd.R_drewN|apply Kd.R_drew));exact b6.out) hb);have c9:=zzm (Kd.R_below (by (with_reducible repeat (first|apply Kd.R_alloc|apply Kd.R_drewN|apply Kd.R_drew));exact b7.out) hb);have d0:=zzm (Kd.N_below (Kd.N_elderB (zzN a8.out) a0 (Nat.le_of_eq hg.symm)) hb);have d1:=zzm (zzh (g:=a7) (o:=.cells #[.bool a3,.bool a4,.int .i64 a5,.int .i64 a6,.int .i64 a2,.slice b1 a1.length b0] 26 (0,0)) (zzE a9.out) hb);have d2:=zzm (zzp zzh2 hb);have d6:=zzm (hbox);have g0:=zzm ((by rw [hg];exact (zzo zzh2):w.heap.size≤a0));have g1:=zzm ((by rw [hg];exact (zzo zzh2):w.heap.size≤a0));have g2:=zzm ((by rw [hg];exact Nat.ne_of_lt (blk_lt (g:=a7) (o:=.cells #[.bool a3,.bool a4,.int .i64 a5,.int .i64 a6,.int .i64 a2,.slice b1 a1.length b0] 26 (0,0)) (zzE a9.out)):a7≠a0));have g3:=zzm ((by rw [hg];exact Nat.ne_of_gt (blk_lt (g:=a7) (o:=.cells #[.bool a3,.bool a4,.int .i64 a5,.int .i64 a6,.int .i64 a2,.slice b1 a1.length b0] 26 (0,0)) (zzE a9.out)):a0≠a7));clear b6 b7 a8 a9 HB;have b6:=c5;have b7:=c9;have a8:=d0;have a9:=d1;have HB:=d2;have b2:=d6;have m1:=g0;have m2:=g1;have b4:=g2;have e3:=g3;clear c5 c9 d0 d1 d2 d6 g0 g1 g2 g3 hb hbox hg;have y0:=e3.out;have y1:=b4.out;obtain ⟨t5,t6,t7,t8,t9,v0,v1,v2,v3,v4,v5,v6⟩:=zzc6 b2.out;obtain ⟨v7,v8,v9,w0,w1,w2,w3,w4,w5,w6,w9,x0⟩:=zzc6 a9.out));have g4:=zzm (Kd.R_mono (Kd.R_far (p:=⟨a0,4,none⟩) (Kd.R_far (p:=⟨a0,5,none⟩) (Kd.R_far (p:=⟨a0,4,none⟩) (Kd.R_far (p:=⟨a0,3,none⟩) (Kd.R_far (p:=⟨a0,2,none⟩) (Kd.R_far (p:=⟨a0,1,none⟩) (Kd.R_far (p:=⟨a0,0,none⟩) (Kd.R_types b6.out b2.out (by decide)) (fun _ hk=>hk.2) (.bool a3)) (fun _ hk=>hk.2) (.bool a4)) (fun _ hk=>hk.2) (.int .i64 a5)) (fun _ hk=>hk.2) (.int .i64 a6)) (fun _ hk=>hk.2) (.int .i64 a2)) (fun _ hk=>hk.2) (.slice b1 a1.length b0)) (fun _ hk=>hk.2) (.int .i64 (wrap64 (a2+(a1.length:Int))))) (fun _ h_=>h_.1));have g5:=zzm (Kd.R_mono (Kd.R_far (p:=⟨a0,4,none⟩) (Kd.R_far (p:=⟨a0,5,none⟩) (Kd.R_far (p:=⟨a0,4,none⟩) (Kd.R_far (p:=⟨a0,3,none⟩) (Kd.R_far (p:=⟨a0,2,none⟩) (Kd.R_far (p:=⟨a0,1,none⟩) (Kd.R_far (p:=⟨a0,0,none⟩) (Kd.R_types b7.out b2.out (by decide)) (fun _ hk=>hk.2) (.bool a3)) (fun _ hk=>hk.2) (.bool a4)) (fun _ hk=>hk.2) (.int .i64 a5)) (fun _ hk=>hk.2) (.int .i64 a6)) (fun _ hk=>hk.2) (.int .i64 a2)) (fun _ hk=>hk.2) (.slice b1 a1.length b0)) (fun _ hk=>hk.2) (.int .i64 (wrap64 (a2+(a1.length:Int))))) (fun _ h_=>h_.1));have g6:=zzm (Kd.N_mono (Kd.N_far (p:=⟨a0,4,none⟩) (Kd.N_far (p:=⟨a0,5,none⟩) (Kd.N_far (p:=⟨a0,4,none⟩) (Kd.N_far (p:=⟨a0,3,none⟩) (Kd.N_far (p:=⟨a0,2,none⟩) (Kd.N_far (p:=⟨a0,1,none⟩) (Kd.N_far (p:=⟨a0,0,none⟩) (Kd.N_mono a8.out (fun k_ hk=>(⟨hk,hk.2⟩:_∧k_≠a0))) (fun _ hk=>hk.2) (.bool a3)) (fun _ hk=>hk.2) (.bool a4)) (fun _ hk=>hk.2) (.int .i64 a5)) (fun _ hk=>hk.2) (.int .i64 a6)) (fun _ hk=>hk.2) (.int .i64 a2)) (fun _ hk=>hk.2) (.slice b1 a1.length b0)) (fun _ hk=>hk.2) (.int .i64 (wrap64 (a2+(a1.length:Int))))) (fun _ h_=>h_.1));have g7:Aside0 ((((((((h8.setCell ⟨a0,0,none⟩ (.bool a3)).setCell ⟨a0,1,none⟩ (.bool a4)).setCell ⟨a0,2,none⟩ (.int .i64 a5)).setCell ⟨a0,3,none⟩ (.int .i64 a6)).setCell ⟨a0,4,none⟩ (.int .i64 a2)).setCell ⟨a0,5,none⟩ (.slice b1 a1.length b0)).setCell ⟨a0,4,none⟩ (.int .i64 (wrap64 (a2+(a1.length:Int))))).heap[a7]? = some (.cells #[.bool a3,.bool a4,.int .i64 a5,.int .i64 a6,.int .i64 a2,.slice b1 a1.length b0] 26 (0,0))):=⟨(by (with_reducible repeat (first|apply zzf|apply zzg|apply zze));refine zzj ?_ b4.out _;(with_reducible repeat (first|apply zzf|apply zzg|apply zze));refine zzj ?_ b4.out _;(with_reducible repeat (first|apply zzf|apply zzg|apply zze));refine zzj ?_ b4.out _;(with_reducible repeat (first|apply zzf|apply zzg|apply zze));refine zzj ?_ b4.out _;(with_reducible repeat (first|apply zzf|apply zzg|apply zze));refine zzj ?_ b4.out _;(with_reducible repeat (first|apply zzf|apply zzg|apply zze));refine zzj ?_ b4.out _;(with_reducible repeat (first|apply zzf|apply zzg|apply zze));refine zzj ?_ b4.out _;(with_reducible repeat (first|apply zzf|apply zzg|apply zze));exact a9.out)⟩;have g8:Aside0 ((((((((h8.setCell ⟨a0,0,none⟩ (.bool a3)).setCell ⟨a0,1,none⟩ (.bool a4)).setCell ⟨a0,2,none⟩ (.int .i64 a5)).setCell ⟨a0,3,none⟩ (.int .i64 a6)).setCell ⟨a0,4,none⟩ (.int .i64 a2)).setCell ⟨a0,5,none⟩ (.slice b1 a1.length b0)).setCell ⟨a0,4,none⟩ (.int .i64 (wrap64 (a2+(a1.length:Int))))).heap[a0]? = some (.cells #[.bool a3,.bool a4,.int .i64 a5,.int .i64 a6,.int .i64 (wrap64 (a2+(a1.length:Int))),.slice b1 a1.length b0] 26 (0,0))):=⟨(by (with_reducible repeat (first|apply zzf|apply zzg|apply zze));refine zzi (cs:=#[.bool a3,.bool a4,.int .i64 a5,.int .i64 a6,.int .i64 a2,.slice b1 a1.length b0]) ?_ 4 _ rfl;refine zzi (cs:=#[.bool a3,.bool a4,.int .i64 a5,.int .i64 a6,.int .i64 a2,.slice none 0 0]) ?_ 5 _ rfl;refine zzi (cs:=#[.bool a3,.bool a4,.int .i64 a5,.int .i64 a6,.int .i64 0,.slice none 0 0]) ?_ 4 _ rfl;refine zzi (cs:=#[.bool a3,.bool a4,.int .i64 a5,.int .i64 0,.int .i64 0,.slice none 0 0]) ?_ 3 _ rfl;refine zzi (cs:=#[.bool a3,.bool a4,.int .i64 0,.int .i64 0,.int .i64 0,.slice none 0 0]) ?_ 2 _ rfl;refine zzi (cs:=#[.bool a3,.bool false,.int .i64 0,.int .i64 0,.int .i64 0,.slice none 0 0]) ?_ 1 _ rfl;refine zzi (cs:=#[.bool false,.bool false,.int .i64 0,.int .i64 0,.int .i64 0,.slice none 0 0]) ?_ 0 _ rfl;(with_reducible repeat (first|apply zzf|apply zzg|apply zze));exact b2.out)⟩;have g9:Aside0 (Below w.heap.size w (((((((h8.setCell ⟨a0,0,none⟩ (.bool a3)).setCell ⟨a0,1,none⟩ (.bool a4)).setCell ⟨a0,2,none⟩ (.int .i64 a5)).setCell ⟨a0,3,none⟩ (.int .i64 a6)).setCell ⟨a0,4,none⟩ (.int .i64 a2)).setCell ⟨a0,5,none⟩ (.slice b1 a1.length b0)).setCell ⟨a0,4,none⟩ (.int .i64 (wrap64 (a2+(a1.length:Int)))))):=⟨zzh3⟩;clear b6 b7 a8 a9 b2 HB;have b6:=g4;have b7:=g5;have a8:=g6;have a9:=g7;have b2:=g8;have HB:=g9;clear g4 g5 g6 g7 g8 g9;generalize hch_:(((((((h8.setCell ⟨a0,0,none⟩ (.bool a3)).setCell ⟨a0,1,none⟩ (.bool a4)).setCell ⟨a0,2,none⟩ (.int .i64 a5)).setCell ⟨a0,3,none⟩ (.int .i64 a6)).setCell ⟨a0,4,none⟩ (.int .i64 a2)).setCell ⟨a0,5,none⟩ (.slice b1 a1.length b0)).setCell ⟨a0,4,none⟩ (.int .i64 (wrap64 (a2+(a1.length:Int)))))=d7 at b6 b7 a8 a9 b2 HB ⊢;clear hch_;have hq0_:d7.cell? ⟨a0,0,none⟩=some (.bool a3):=(zzk b2.out 0).trans rfl;have hq1_:d7.cell? ⟨a0,1,none⟩=some (.bool a4):=(zzk b2.out 1).trans rfl;have hq2_:d7.cell? ⟨a0,2,none⟩=some (.int .i64 a5):=(zzk b2.out 2).trans rfl;have hq3_:d7.cell? ⟨a0,3,none⟩=some (.int .i64 a6):=(zzk b2.out 3).trans rfl;have hq4_:d7.cell? ⟨a0,4,none⟩=some (.int .i64 (wrap64 (a2+(a1.length:Int)))):=(zzk b2.out 4).trans rfl;have hq5_:d7.cell? ⟨a0,5,none⟩=some (.slice b1 a1.length b0):=(zzk b2.out 5).trans rfl;go_wp2_with (first|((with_reducible refine gate_callee (f:=10) rfl ?_);refine goesL_ (some 60) rfl rfl Try.func10 (by kernel_rfl) rfl #[.agg #[.bool a3,.bool a4,.int .i64 a5,.int .i64 a6,.int .i64 (wrap64 (a2+(a1.length:Int))),.slice b1 a1.length b0]] rfl zzM2 ?_;(with_reducible refine (Qe.calls h4 a3 a4 a5 a6 (wrap64 (a2+(a1.length:Int))) _ _ a1 false _ ?side1 ?side2 m9.out).mono ?_);(case side1=>exact (Kd.N_reads' a8.out).2.2);(case side2=>exact (Kd.N_reads' a8.out).2.1);rintro e A2 ⟨rfl,hb⟩;refine ⟨_,rfl,?_⟩;have c5:=zzm (Kd.R_below (by (with_reducible repeat (first|apply Kd.R_alloc|apply Kd.R_drewN|apply Kd.R_drew));exact b6.out) hb);have c9:=zzm (Kd.R_below (by (with_reducible repeat (first|apply Kd.R_alloc|apply Kd.R_drewN|apply Kd.R_drew));exact b7.out) hb);have d0:=zzm (Kd.N_below (zzN a8.out) hb);have d1:=zzm (zzh (g:=a7) (o:=.cells #[.bool a3,.bool a4,.int .i64 a5,.int .i64 a6,.int .i64 a2,.slice b1 a1.length b0] 26 (0,0)) (zzE a9.out) hb);have d2:=zzm (zzh (g:=a0) (o:=.cells #[.bool a3,.bool a4,.int .i64 a5,.int .i64 a6,.int .i64 (wrap64 (a2+(a1.length:Int))),.slice b1 a1.length b0] 26 (0,0)) (zzE b2.out) hb);have d6:=zzm (zzp zzh2 hb);clear b6 b7 a8 a9 b2 HB;have b6:=c5;have b7:=c9;have a8:=d0;have a9:=d1;have b2:=d2;have HB:=d6;clear c5 c9 d0 d1 d2 d6;(try clear hb);(try clear hb2);(try clear hk);(try clear hi)));go_ret;exact ⟨zzR,zzh3⟩
def laws_FnPutNext.Pure:Prop:=∀ (l0:List Int),l0.length≤maxLen→l0.length * 1≤140737488351232→(∀ x∈l0,(Lit.int .u8 x).wf=true)→∃ k,laws_FnPutNext.f k l0=some true
theorem laws_FnPutNext.walk (P:laws_FnPutNext.Pure) (a0:Option Addr) (len0 cap0:Nat) (z0:List Int) (w:World) (w0:(a0=none∧len0=0∧cap0=0∧z0 = [])∨∃ x,a0=some x∧len0≤cap0∧cap0≤maxLen∧z0.length=cap0∧(∀ i,i < z0.length→w.cell? (x.add i)=some (.int .u8 (z0.getD i 0)))∧∀ n∈z0,(Lit.int .u8 n).wf=true) (y0:len0 * 1≤140737488351232) :
  Calls Try.prog 3 #[.slice a0 len0 cap0] w fun e w'=>e = .returned (.bool true)∧Below w.heap.size w w':=by
 obtain ⟨l0,rfl,hr0,hm0,hw0,hc0⟩:=ReadsInt.ofRowC w0;obtain ⟨k,h⟩:=P l0 hm0 y0 hw0;refine (laws_FnPutNext.calls k _ _ l0 true w (Kd.C_of_reads (d:=(0:Int)) (h1:=fun _=>rfl) hr0) hc0 h).mono ?_;rintro e w' ⟨rfl,hd⟩;exact ⟨rfl,hd⟩
end Go.Proofs.Ytmophgccpnpgfaa.T
namespace Go.Proofs.Ytmophgccpnpgfaa.Q
open Go.RowKit Go.Proofs.YtmophgccpnpgfaaW.PrintWords
set_option linter.unusedVariables false
set_option linter.unusedSimpArgs false
theorem ev_succ {α:Type} {g:Nat→Option α} {r : α} (h:Ev (fun k=>g (k+1)) r):Ev g r:=Ev.step (f:=fun k=>g (k+1)) (fun _=>rfl) h
theorem ev_of_all {α:Type} {g:Nat→Option α} {r : α} (h:∀ k,g k=some r):Ev g r:=⟨0,fun k _=>h k⟩
theorem ev_some {α:Type} (r : α):Ev (fun _=>some r) r:=ev_of_all fun _=>rfl
def Evs {α:Type} (g:Nat→Option α) (Q : α→Prop):Prop:=∃ r,Ev g r∧Q r
theorem Evs.of {α:Type} {g:Nat→Option α} {Q : α→Prop} {r : α} (h:Ev g r) (hq:Q r):Evs g Q:=⟨r,h,hq⟩
theorem Evs.done {α:Type} {Q : α→Prop} {r : α} (hq:Q r):Evs (fun _=>some r) Q:=⟨r,ev_some r,hq⟩
theorem Evs.mono {α:Type} {g:Nat→Option α} {Q Q' : α→Prop} (h:Evs g Q) (hq:∀ r,Q r→Q' r):Evs g Q':=by
 obtain ⟨r,h1,h2⟩:=h
 exact ⟨r,h1,hq r h2⟩
theorem Evs.succ {α:Type} {g:Nat→Option α} {Q : α→Prop} (h:Evs (fun k=>g (k+1)) Q):Evs g Q:=by
 obtain ⟨r,h1,h2⟩:=h
 exact ⟨r,ev_succ h1,h2⟩
theorem Evs.bind {α β:Type} {g:Nat→Option α} {f:Nat→α→Option β} {Q : α→Prop} {R : β→Prop} (h:Evs g Q) (k:∀ a,Q a→Evs (fun n=>f n a) R):Evs (fun n=>(g n).bind (f n)) R:=by
 obtain ⟨a,h1,h2⟩:=h
 obtain ⟨r,k1,k2⟩:=k a h2
 exact ⟨r,Ev.bind h1 k1,k2⟩
theorem bsome {α β:Type} (a : α) (f : α→Option β):(some a).bind f=f a:=Eq.trans (Option.bind_some a f) (Eq.refl _)
end Go.Proofs.Ytmophgccpnpgfaa.Q
namespace Go.Proofs.Ytmophgccpnpgfaa.Q
open Go.RowKit Go.Proofs.Ytmophgccpnpgfaa.T Go.Proofs.YtmophgccpnpgfaaW.PrintWords Go.Proofs.YtmophgccpnpgfaaW.PrintLast
set_option linter.unusedVariables false
set_option linter.unusedSimpArgs false
theorem wrap_id {x:Int} (h0 : -9223372036854775808≤x) (h1:x < 9223372036854775808):wrap64 x=x:=by unfold wrap64;omega
theorem tmod_range {x n:Int} (h : 0≤x) (hn : 1≤n) : 0≤Int.tmod x n∧Int.tmod x n < n:=by
 rw [Int.tmod_eq_emod_of_nonneg h]
 exact ⟨Int.emod_nonneg _ (by omega),Int.emod_lt_of_pos _ (by omega)⟩
theorem xor_nonneg {a b:Int} (h1 : 0≤a) (h2:a < 4611686018427387904) (h3 : 0≤b) (h4:b < 4611686018427387904) : 0≤Go.bits .xor .i64 a b:=by
 obtain ⟨A,rfl⟩:=Int.eq_ofNat_of_zero_le h1
 obtain ⟨B,rfl⟩:=Int.eq_ofNat_of_zero_le h3
 have hx:A ^^^ B < 2 ^ 62:=Nat.xor_lt_two_pow (by omega) (by omega)
 have e1:(BitVec.ofInt 64 (A:Int)).toNat=A:=by
  rw [BitVec.ofInt_natCast,BitVec.toNat_ofNat];exact Nat.mod_eq_of_lt (by omega)
 have e2:(BitVec.ofInt 64 (B:Int)).toNat=B:=by
  rw [BitVec.ofInt_natCast,BitVec.toNat_ofNat];exact Nat.mod_eq_of_lt (by omega)
 show 0≤IntKind.i64.wrap ((BitVec.ofInt 64 (A:Int) ^^^ BitVec.ofInt 64 (B:Int)).toNat:Int)
 rw [BitVec.toNat_xor,e1,e2]
 simp only [IntKind.wrap,IntKind.bits,IntKind.signed]
 simp
 omega
def Bytes (b:List Int):Prop:=∀ x∈b,0≤x∧x≤255
theorem rd_bytes {b:List Int} (h:Bytes b) (i:Int) : 0≤rd b i∧rd b i≤255:=by
 unfold rd
 rw [List.getD_eq_getElem?_getD]
 cases e:b[i.toNat]? with
 | none=>simp
 | some x=>exact h x (List.mem_of_getElem? e)
theorem pick_ev (b:List Int) (p n:Int) (hb:Bytes b) (hl:b.length≤2000) (h0 : 0≤p) (h1:p≤1000000000) (hn : 1≤n) :
  ∃ v,Ev (fun k=>Qb.f k b p n) (v,p+1)∧0≤v∧v < n:=by
 have e1:wrap64 (p+1)=p+1:=wrap_id (by omega) (by omega)
 have e2:wrap64 (p+1 - 1)=p:=by rw [wrap_id (by omega) (by omega)];omega
 by_cases hz:b.length=0
 ·refine ⟨0,⟨1,fun k hk=>?_⟩,by omega,by omega⟩
  obtain ⟨k,rfl⟩:∃ m,k=m+1:=⟨k - 1,by omega⟩
  show Qb.f (k+1) b p n = _
  unfold Qb.f
  rw [if_neg (by omega),e1]
  simp [Qb.j0,hz]
 ·have hz' : (((b.length:Int)==0)=true)=False:=by simp;intro h;simp [h] at hz
  by_cases hlt:p < (b.length:Int)
  ·obtain ⟨r0,r1⟩:=rd_bytes hb p
   have:=tmod_range (x:=rd b p) r0 hn
   refine ⟨Int.tmod (rd b p) n,⟨1,fun k hk=>?_⟩,this.1,this.2⟩
   obtain ⟨k,rfl⟩:∃ m,k=m+1:=⟨k - 1,by omega⟩
   show Qb.f (k+1) b p n = _
   unfold Qb.f
   rw [if_neg (by omega),e1]
   simp only [Qb.j0,e2,hz']
   rw [if_neg (by simp),if_pos hlt,if_pos h0,if_neg (by omega),wrap_id (by omega) (by omega)]
  ·obtain ⟨q0,q1⟩:=tmod_range (x:=p) (n:=(b.length:Int)) h0 (by omega)
   obtain ⟨r0,r1⟩:=rd_bytes hb (Int.tmod p (b.length:Int))
   have f1:wrap64 (p * 7)=p * 7:=wrap_id (by omega) (by omega)
   have f2:wrap64 (p * 7+3)=p * 7+3:=wrap_id (by omega) (by omega)
   obtain ⟨q2,q3⟩:=tmod_range (x:=p * 7+3) (n:=(b.length:Int)) (by omega) (by omega)
   obtain ⟨r2,r3⟩:=rd_bytes hb (Int.tmod (p * 7+3) (b.length:Int))
   have d0 : 0≤Int.tdiv p (b.length:Int)∧Int.tdiv p (b.length:Int)≤p:=by
    rw [Int.tdiv_eq_ediv_of_nonneg h0]
    exact ⟨Int.ediv_nonneg h0 (by omega),Int.ediv_le_self _ h0⟩
   obtain ⟨x,hx⟩:∃ x,x=rd b (Int.tmod p (b.length:Int)):=⟨_,rfl⟩
   obtain ⟨y,hy⟩:∃ y,y=rd b (Int.tmod (p * 7+3) (b.length:Int)):=⟨_,rfl⟩
   obtain ⟨z,hz2⟩:∃ z,z=Int.tdiv p (b.length:Int):=⟨_,rfl⟩
   obtain ⟨s,hs⟩:∃ s,s=x * 131+y * 1117+p * 29+z * 53:=⟨_,rfl⟩
   rw [← hx] at r0 r1
   rw [← hy] at r2 r3
   rw [← hz2] at d0
   have s0 : 0≤s∧s < 4611686018427387904:=by omega
   have t0 : 0≤Int.tdiv s 64∧Int.tdiv s 64≤s:=by
    rw [Int.tdiv_eq_ediv_of_nonneg s0.1]
    exact ⟨Int.ediv_nonneg s0.1 (by omega),Int.ediv_le_self _ s0.1⟩
   have w1:wrap64 x=x:=wrap_id (by omega) (by omega)
   have w2:wrap64 y=y:=wrap_id (by omega) (by omega)
   have w3:wrap64 z=z:=wrap_id (by omega) (by omega)
   have w4:wrap64 (x * 131)=x * 131:=wrap_id (by omega) (by omega)
   have w5:wrap64 (y * 1117)=y * 1117:=wrap_id (by omega) (by omega)
   have w6:wrap64 (p * 29)=p * 29:=wrap_id (by omega) (by omega)
   have w7:wrap64 (z * 53)=z * 53:=wrap_id (by omega) (by omega)
   have w8:wrap64 (x * 131+y * 1117)=x * 131+y * 1117:=wrap_id (by omega) (by omega)
   have w9:wrap64 (x * 131+y * 1117+p * 29)=x * 131+y * 1117+p * 29:=wrap_id (by omega) (by omega)
   have wa:wrap64 (x * 131+y * 1117+p * 29+z * 53)=s:=by rw [hs];exact wrap_id (by omega) (by omega)
   have wb:wrap64 (Int.tdiv s 64)=Int.tdiv s 64:=wrap_id (by omega) (by omega)
   have:=tmod_range (x:=Go.bits .xor .i64 s (Int.tdiv s 64)) (n:=n) (xor_nonneg s0.1 s0.2 t0.1 (by omega)) hn
   refine ⟨_,⟨1,fun k hk=>?_⟩,this.1,this.2⟩
   obtain ⟨k,rfl⟩:∃ m,k=m+1:=⟨k - 1,by omega⟩
   show Qb.f (k+1) b p n = _
   unfold Qb.f
   rw [if_neg (by omega),e1]
   simp only [Qb.j0,e2,hz',f1,f2]
   rw [if_neg (by simp),if_neg hlt,if_neg (by omega),if_pos q0,if_pos q1,if_pos q2,if_pos q3,if_neg (by omega),← hx,← hy,← hz2,w1,w2,w3,w4,w5,w6,w7,w8,w9,wa,wb]
theorem pick_evs (b:List Int) (p n:Int) (hb:Bytes b) (hl:b.length≤2000) (h0 : 0≤p) (h1:p≤1000000000) (hn : 1≤n) :
  Evs (fun k=>Qb.f k b p n) (fun r=>0≤r.1∧r.1 < n∧r.2=p+1):=by
 obtain ⟨v,h,v0,v1⟩:=pick_ev b p n hb hl h0 h1 hn
 exact ⟨_,h,v0,v1,rfl⟩
theorem Rl (a b c:Int):Qp.f a b c=some (decide (b≤a∧a≤c)):=by
 unfold Qp.f
 by_cases h:a ≥ b
 ·rw [if_pos h]
  have:(b≤a∧a≤c)↔a≤c:=⟨fun h=>h.2,fun h'=>⟨h,h'⟩⟩
  simp [this]
 ·rw [if_neg h]
  have:¬ (b≤a∧a≤c):=fun h'=>h h'.1
  simp [this]
theorem spec_l6In_eq (a b c:Int):Qo.f a b c=some (decide (b≤a∧a≤c)):=by
 unfold Qo.f
 by_cases h:a ≥ b
 ·rw [if_pos h]
  have:(b≤a∧a≤c)↔a≤c:=⟨fun h=>h.2,fun h'=>⟨h,h'⟩⟩
  simp [this]
 ·rw [if_neg h]
  have:¬ (b≤a∧a≤c):=fun h'=>h h'.1
  simp [this]
theorem rd_nat (l:List Int) (j:Nat) (h:j < l.length):rd l (j:Int)=l[j]:=by
 unfold rd
 rw [Int.toNat_natCast,List.getD_eq_getElem?_getD,List.getElem?_eq_getElem h]
 rfl
theorem drop_int {l:List Int} {i:Nat} (h:i < l.length):l.drop i=rd l i::l.drop (i+1):=by
 rw [List.drop_eq_getElem_cons h,rd_nat l i h]
def ab (l:List Int):Bool:=decide (∀ x∈l,0≤x∧x≤255)
theorem ab_cons (x:Int) (l:List Int):ab (x::l)=(decide (0≤x∧x≤255)&&ab l):=by
 rw [Bool.eq_iff_iff]
 simp [ab,List.forall_mem_cons]
theorem ab_nil:ab []=true:=by simp [ab]
theorem isByte_eq (a:Int):Rk.f a=some (decide (0≤a∧a≤255)):=by
 unfold Rk.f
 by_cases h:a ≥ 0
 ·rw [if_pos h]
  have:(0≤a∧a≤255)↔a≤255:=⟨fun h=>h.2,fun h'=>⟨h,h'⟩⟩
  simp [this]
 ·rw [if_neg h]
  have:¬ (0≤a∧a≤255):=fun h'=>h h'.1
  simp [this]
theorem baseValid_eq (a b:Int):Rh.f a b=some (decide ((0≤a∧a≤99999)∧(0≤b∧b≤99999))):=by
 unfold Rh.f
 rw [Rl,Rl]
 by_cases h : 0≤a∧a≤99999 <;> simp [h]
theorem idValid_eqB (a:Int):Qv.f a=some (decide (0≤a∧a≤254)):=by
 unfold Qv.f
 rw [Rl]
 rfl
theorem implAll_loop (l:List Int) (hl:l.length≤1000000000000000):∀ (d i:Nat),l.length - i=d→i≤l.length→Ev (fun k=>Qu.l0 k l (l.length:Int) (i:Int)) (ab (l.drop i)):=by
 intro d
 induction d with
 | zero=>
  intro i hd hi
  rw [show l.drop i = [] from List.drop_eq_nil_of_le (by omega),ab_nil]
  refine ev_succ ?_
  simp only [Qu.l0,if_neg (show ¬ (i:Int) < (l.length:Int) by omega)]
  exact ev_some _
 | succ d ih=>
  intro i hd hi
  have e1:wrap64 ((i:Int)+1)=((i+1:Nat):Int):=by rw [wrap_id (by omega) (by omega)];omega
  rw [drop_int (show i < l.length by omega),ab_cons]
  refine ev_succ ?_
  simp only [Qu.l0,if_pos (show (i:Int) < (l.length:Int) by omega),if_pos (show (0:Int)≤i by omega),isByte_eq,bsome,decide_eq_true_eq,e1]
  by_cases h : 0≤rd l (i:Int)∧rd l (i:Int)≤255
  ·simp only [if_pos h,decide_eq_true h,Bool.true_and]
   exact ih (i+1) (by omega) (by omega)
  ·simp only [if_neg h,decide_eq_false h,Bool.false_and]
   exact ev_some _
theorem implAll (l:List Int) (hl:l.length≤1000000000000000):Ev (fun k=>Qu.f k l) (ab l):=by
 unfold Qu.f
 have:=implAll_loop l hl l.length 0 (by omega) (by omega)
 simpa using this
theorem specAll_loop (l:List Int) (hl:l.length≤1000000000000000):∀ (d i:Nat),l.length - i=d→i≤l.length→Ev (fun k=>Qx.l0 k l (i:Int)) (ab (l.drop i)):=by
 intro d
 induction d with
 | zero=>
  intro i hd hi
  rw [show l.drop i = [] from List.drop_eq_nil_of_le (by omega),ab_nil]
  refine ev_succ ?_
  simp only [Qx.l0,if_neg (show ¬ (i:Int) < (l.length:Int) by omega)]
  exact ev_some _
 | succ d ih=>
  intro i hd hi
  have e1:wrap64 ((i:Int)+1)=((i+1:Nat):Int):=by rw [wrap_id (by omega) (by omega)];omega
  rw [drop_int (show i < l.length by omega),ab_cons]
  refine ev_succ ?_
  simp only [Qx.l0,if_pos (show (i:Int) < (l.length:Int) by omega),if_pos (show (0:Int)≤i by omega),spec_l6In_eq,bsome,decide_eq_true_eq,e1]
  by_cases h : 0≤rd l (i:Int)∧rd l (i:Int)≤255
  ·simp only [if_pos h,decide_eq_true h,Bool.true_and]
   exact ih (i+1) (by omega) (by omega)
  ·simp only [if_neg h,decide_eq_false h,Bool.false_and]
   exact ev_some _
theorem specAll (l:List Int) (hl:l.length≤1000000000000000):Ev (fun k=>Qx.f k l) (ab l):=by
 unfold Qx.f
 have:=specAll_loop l hl l.length 0 (by omega) (by omega)
 simpa using this
def pv (has:Bool) (l:List Int):Bool:=if has=true then decide (l.length≤12)&&ab l else decide (l.length=0)
theorem implPart (has:Bool) (l:List Int) (hl:l.length≤1000000000000000):Ev (fun k=>Rb.f k has l) (pv has l):=by
 unfold Rb.f pv
 cases has with
 | true=>
  simp only [if_true]
  by_cases h:(l.length:Int)≤12
  ·simp only [if_pos h,decide_eq_true (show l.length≤12 by omega),Bool.true_and]
   exact Ev.bind (implAll l hl) (ev_some _)
  ·simp only [if_neg h,decide_eq_false (show ¬ l.length≤12 by omega),Bool.false_and]
   exact ev_some _
 | false=>
  simp only [Bool.false_eq_true,if_false]
  rw [show ((l.length:Int)==0)=decide (l.length=0) by rw [Bool.eq_iff_iff];simp]
  exact ev_some _
theorem specPart (has:Bool) (l:List Int) (hl:l.length≤1000000000000000):Ev (fun k=>Ri.f k has l) (pv has l):=by
 unfold Ri.f pv
 cases has with
 | true=>
  simp only [if_true]
  refine Ev.bind (specAll l hl) ?_
  by_cases h:ab l=true
  ·simp only [if_pos h,h,Bool.and_true]
   rw [show decide ((l.length:Int)≤12)=decide (l.length≤12) by rw [decide_eq_decide];omega]
   exact ev_some _
  ·simp only [if_neg h,show ab l=false by simpa using h,Bool.and_false]
   exact ev_some _
 | false=>
  simp only [Bool.false_eq_true,if_false]
  by_cases h:l.length=0
  ·simp only [if_pos (show (l.length:Int)=0 by omega),decide_eq_true h]
   refine Ev.bind (specAll l hl) ?_
   have hn:l = []:=List.length_eq_zero_iff.1 h
   subst hn
   simp only [ab_nil,if_true]
   exact ev_some _
  ·simp only [if_neg (show ¬ (l.length:Int)=0 by omega),decide_eq_false h]
   exact ev_some _
abbrev Rc:=S75
abbrev rr (l:List Rc) (i:Int):Rc:=Qc l i
theorem rr_nat (l:List Rc) (j:Nat) (h:j < l.length):rr l (j:Int)=l[j]:=by
 unfold rr Qc
 rw [Int.toNat_natCast,List.getD_eq_getElem?_getD,List.getElem?_eq_getElem h]
 rfl
def smallR (r:Rc):Prop:=r.f3.length≤1000000000000000∧r.f5.length≤1000000000000000
def smallRs (l:List Rc):Prop:=l.length≤1000000000000000∧∀ r∈l,smallR r
theorem smallRs_at {l:List Rc} (h:smallRs l) (j:Nat) (hj:j < l.length):smallR (rr l (j:Int)):=by
 rw [rr_nat l j hj]
 exact h.2 _ (List.getElem_mem hj)
def rv (r:Rc):Bool:=decide ((0≤r.f0∧r.f0≤99999)∧(0≤r.f1∧r.f1≤99999))&&(pv r.f2 r.f3&&pv r.f4 r.f5)
theorem implRec (r:Rc) (h:smallR r):Ev (fun k=>Rd.f k r.f0 r.f1 r.f2 r.f3 r.f4 r.f5) (rv r):=by
 unfold Rd.f rv
 simp only [baseValid_eq,bsome,decide_eq_true_eq]
 by_cases h0:(0≤r.f0∧r.f0≤99999)∧(0≤r.f1∧r.f1≤99999)
 ·simp only [if_pos h0,decide_eq_true h0,Bool.true_and]
  refine Ev.bind (implPart _ _ h.1) ?_
  by_cases h1:pv r.f2 r.f3=true
  ·simp only [if_pos h1,h1,Bool.true_and]
   exact Ev.bind (implPart _ _ h.2) (ev_some _)
  ·simp only [if_neg h1,show pv r.f2 r.f3=false by simpa using h1,Bool.false_and]
   exact ev_some _
 ·simp only [if_neg h0,decide_eq_false h0,Bool.false_and]
  exact ev_some _
theorem specRec (r:Rc) (h:smallR r):Ev (fun k=>Re.f k r.f0 r.f1 r.f2 r.f3 r.f4 r.f5) (rv r):=by
 unfold Re.f rv
 simp only [spec_l6In_eq,bsome,decide_eq_true_eq]
 by_cases h0 : 0≤r.f0∧r.f0≤99999
 ·by_cases h1 : 0≤r.f1∧r.f1≤99999
  ·simp only [if_pos h0,if_pos h1,decide_eq_true (show (0≤r.f0∧r.f0≤99999)∧(0≤r.f1∧r.f1≤99999) from ⟨h0,h1⟩),Bool.true_and]
   refine Ev.bind (specPart _ _ h.1) ?_
   by_cases h2:pv r.f2 r.f3=true
   ·simp only [if_pos h2,h2,Bool.true_and]
    exact Ev.bind (specPart _ _ h.2) (ev_some _)
   ·simp only [if_neg h2,show pv r.f2 r.f3=false by simpa using h2,Bool.false_and]
    exact ev_some _
  ·simp only [if_pos h0,if_neg h1,decide_eq_false (show ¬ ((0≤r.f0∧r.f0≤99999)∧(0≤r.f1∧r.f1≤99999)) from fun h=>h1 h.2),Bool.false_and]
   exact ev_some _
 ·simp only [if_neg h0,decide_eq_false (show ¬ ((0≤r.f0∧r.f0≤99999)∧(0≤r.f1∧r.f1≤99999)) from fun h=>h0 h.1),Bool.false_and]
  exact ev_some _
def RF (l:List Rc) (i:Nat):Prop:=∀ j,i≤j→j < l.length→rv (rr l j)=true∧(0 < j→(rr l ((j:Int) - 1)).f0 < (rr l j).f0)
theorem RF_end {l:List Rc} {i:Nat} (h:l.length≤i):RF l i:=fun j h1 h2=>by omega
theorem RF_step {l:List Rc} {i:Nat} (h:i < l.length):RF l i↔(rv (rr l i)=true∧(0 < i→(rr l ((i:Int) - 1)).f0 < (rr l i).f0))∧RF l (i+1):=by
 constructor
 ·intro hv
  exact ⟨hv i (Nat.le_refl _) h,fun j h1 h2=>hv j (by omega) h2⟩
 ·rintro ⟨h1,h2⟩ j h3 h4
  by_cases e:j=i
  ·subst e;exact h1
  ·exact h2 j (by omega) h4
theorem implRecs_loop (l:List Rc) (hl:smallRs l) (a0 a1:Bool) (a2 a3 a4:Int):∀ (d i:Nat),l.length - i=d→i≤l.length→Evs (fun k=>Qe.l0 k l (l.length:Int) (i:Int) a0 a1 a2 a3 a4 l) (fun b=>b=true↔RF l i):=by
 intro d
 induction d with
 | zero=>
  intro i hd hi
  refine Evs.succ ?_
  simp only [Qe.l0,if_neg (show ¬ (i:Int) < (l.length:Int) by omega)]
  exact Evs.done (by simp;exact RF_end (by omega))
 | succ d ih=>
  intro i hd hi
  have hll:=hl.1
  have hn:=ih (i+1) (by omega) (by omega)
  have e1:wrap64 ((i:Int)+1)=((i+1:Nat):Int):=by rw [wrap_id (by omega) (by omega)];omega
  have e2:wrap64 ((i:Int) - 1)=(i:Int) - 1:=wrap_id (by omega) (by omega)
  rw [RF_step (show i < l.length by omega)]
  refine Evs.succ ?_
  simp only [Qe.l0,if_pos (show (i:Int) < (l.length:Int) by omega),if_pos (show (0:Int)≤i by omega),e1,e2]
  refine Evs.bind (Evs.of (implRec (rr l (i:Int)) (smallRs_at hl i (by omega))) rfl:Evs _ (fun x=>x=rv (rr l (i:Int)))) ?_
  rintro _ rfl
  by_cases h1:rv (rr l (i:Int))=true
  ·simp only [if_pos h1]
   by_cases h0:(i:Int) > 0
   ·simp only [if_pos h0,if_pos (show 0≤(i:Int) - 1 by omega),if_pos (show (i:Int) - 1 < (l.length:Int) by omega)]
    by_cases h2:(rr l ((i:Int) - 1)).f0 ≥ (rr l (i:Int)).f0
    ·simp only [if_pos h2]
     refine Evs.done ?_
     simp only [Bool.false_eq_true,false_iff]
     rintro ⟨⟨_,h3⟩,_⟩
     have:=h3 (by omega)
     omega
    ·simp only [if_neg h2]
     refine hn.mono fun b hb=>?_
     rw [hb]
     exact ⟨fun h=>⟨⟨h1,fun _=>by omega⟩,h⟩,fun h=>h.2⟩
   ·simp only [if_neg h0]
    refine hn.mono fun b hb=>?_
    rw [hb]
    exact ⟨fun h=>⟨⟨h1,fun h'=>absurd h' (by omega)⟩,h⟩,fun h=>h.2⟩
  ·simp only [if_neg h1]
   exact Evs.done (by simp only [Bool.false_eq_true,false_iff];exact fun h=>h1 h.1.1)
theorem specRecs_loop (l:List Rc) (hl:smallRs l):∀ (d i:Nat),l.length - i=d→i≤l.length→Evs (fun k=>Qj.l0 k l (i:Int)) (fun b=>b=true↔RF l i∧1≤l.length∧l.length≤6):=by
 intro d
 induction d with
 | zero=>
  intro i hd hi
  refine Evs.succ ?_
  simp only [Qj.l0,if_neg (show ¬ (i:Int) < (l.length:Int) by omega),spec_l6In_eq,bsome]
  exact Evs.done (by simp only [decide_eq_true_eq];exact ⟨fun h=>⟨RF_end (by omega),by omega,by omega⟩,fun h=>by have:=h.2;omega⟩)
 | succ d ih=>
  intro i hd hi
  have hll:=hl.1
  have hn:=ih (i+1) (by omega) (by omega)
  have e1:wrap64 ((i:Int)+1)=((i+1:Nat):Int):=by rw [wrap_id (by omega) (by omega)];omega
  have e2:wrap64 ((i:Int) - 1)=(i:Int) - 1:=wrap_id (by omega) (by omega)
  rw [RF_step (show i < l.length by omega)]
  refine Evs.succ ?_
  simp only [Qj.l0,if_pos (show (i:Int) < (l.length:Int) by omega),if_pos (show (0:Int)≤i by omega),e1,e2]
  refine Evs.bind (Evs.of (specRec (rr l (i:Int)) (smallRs_at hl i (by omega))) rfl:Evs _ (fun x=>x=rv (rr l (i:Int)))) ?_
  rintro _ rfl
  by_cases h1:rv (rr l (i:Int))=true
  ·simp only [if_pos h1]
   by_cases h0:(i:Int) > 0
   ·simp only [if_pos h0,if_pos (show 0≤(i:Int) - 1 by omega),if_pos (show (i:Int) - 1 < (l.length:Int) by omega)]
    by_cases h2:(rr l ((i:Int) - 1)).f0 ≥ (rr l (i:Int)).f0
    ·simp only [if_pos h2]
     refine Evs.done ?_
     simp only [Bool.false_eq_true,false_iff]
     rintro ⟨⟨⟨_,h3⟩,_⟩,_⟩
     have:=h3 (by omega)
     omega
    ·simp only [if_neg h2]
     refine hn.mono fun b hb=>?_
     rw [hb]
     exact ⟨fun h=>⟨⟨⟨h1,fun _=>by omega⟩,h.1⟩,h.2⟩,fun h=>⟨h.1.2,h.2⟩⟩
   ·simp only [if_neg h0]
    refine hn.mono fun b hb=>?_
    rw [hb]
    exact ⟨fun h=>⟨⟨⟨h1,fun h'=>absurd h' (by omega)⟩,h.1⟩,h.2⟩,fun h=>⟨h.1.2,h.2⟩⟩
  ·simp only [if_neg h1]
   exact Evs.done (by simp only [Bool.false_eq_true,false_iff];exact fun h=>h1 h.1.1.1)
def VB (a1:Bool) (a2 a3 a4:Int) (l:List Rc):Prop:=
 (if a2=255 then a3=0∧a4=0∧a1=false else (0≤a2∧a2≤254)∧(0≤a3∧a3≤99)∧(0≤a4∧a4≤9999))∧(1≤l.length∧l.length≤6)∧(a1=true→l.length=1)∧RF l 0
theorem implB_j0 (a0 a1:Bool) (a2 a3 a4:Int) (l:List Rc) (hl:smallRs l):Evs (fun k=>Qe.j0 k a0 a1 a2 a3 a4 l) (fun b=>b=true↔(1≤l.length∧l.length≤6)∧(a1=true→l.length=1)∧RF l 0):=by
 have hr:=implRecs_loop l hl a0 a1 a2 a3 a4 l.length 0 (by omega) (by omega)
 refine Evs.succ ?_
 simp only [Qe.j0,Rl,bsome,decide_eq_true_eq]
 by_cases h : 1≤(l.length:Int)∧(l.length:Int)≤6
 ·simp only [if_pos h]
  cases a1 with
  | true=>
   simp only [if_true]
   refine Evs.succ ?_
   by_cases h1:l.length=1
   ·simp only [Qe.j1,show ((l.length:Int) != 1)=false by rw [h1];rfl,Bool.false_eq_true,if_false]
    refine hr.mono fun b hb=>?_
    rw [hb]
    exact ⟨fun h2=>⟨by omega,fun _=>h1,h2⟩,fun h2=>h2.2.2⟩
   ·simp only [Qe.j1,show ((l.length:Int) != 1)=true by simp;omega,if_true]
    exact Evs.done (by simp only [Bool.false_eq_true,false_iff];exact fun h2=>h1 (h2.2.1 trivial))
  | false=>
   simp only [Bool.false_eq_true,if_false]
   refine Evs.succ ?_
   simp only [Qe.j1,Bool.false_eq_true,if_false]
   refine hr.mono fun b hb=>?_
   rw [hb]
   exact ⟨fun h2=>⟨by omega,(fun h3=>h3.elim),h2⟩,fun h2=>h2.2.2⟩
 ·simp only [if_neg h]
  refine Evs.succ ?_
  simp only [Qe.j1,if_true]
  exact Evs.done (by simp only [Bool.false_eq_true,false_iff];exact fun h2=>h ⟨by have:=h2.1.1;omega,by have:=h2.1.2;omega⟩)
theorem implB_evs (a0 a1:Bool) (a2 a3 a4:Int) (l:List Rc) (hl:smallRs l):Evs (fun k=>Qe.f k a0 a1 a2 a3 a4 l) (fun b=>b=true↔VB a1 a2 a3 a4 l):=by
 have hj:=implB_j0 a0 a1 a2 a3 a4 l hl
 unfold Qe.f VB
 by_cases h:a2=255
 ·simp only [if_pos h]
  by_cases h3:a3=0
  ·simp only [if_pos h3]
   by_cases h4:a4=0
   ·simp only [if_pos h4]
    cases a1 with
    | true=>
     simp only [if_true]
     exact Evs.done (by simp)
    | false=>
     simp only [Bool.false_eq_true,if_false]
     refine hj.mono fun b hb=>?_
     rw [hb]
     exact ⟨fun h2=>⟨⟨h3,h4,trivial⟩,h2.1,(fun h5=>h5.elim),h2.2.2⟩,fun h2=>⟨h2.2.1,(fun h5=>by cases h5),h2.2.2.2⟩⟩
   ·simp only [if_neg h4]
    exact Evs.done (by simp only [Bool.false_eq_true,false_iff];exact fun h2=>h4 h2.1.2.1)
  ·simp only [if_neg h3]
   exact Evs.done (by simp only [Bool.false_eq_true,false_iff];exact fun h2=>h3 h2.1.1)
 ·simp only [if_neg h,idValid_eqB,Rl,bsome,decide_eq_true_eq]
  by_cases h2 : 0≤a2∧a2≤254
  ·simp only [if_pos h2]
   by_cases h3 : 0≤a3∧a3≤99
   ·simp only [if_pos h3]
    by_cases h4 : 0≤a4∧a4≤9999
    ·simp only [if_pos h4]
     refine hj.mono fun b hb=>?_
     rw [hb]
     exact ⟨fun h5=>⟨⟨h2,h3,h4⟩,h5⟩,fun h5=>h5.2⟩
    ·simp only [if_neg h4]
     exact Evs.done (by simp only [Bool.false_eq_true,false_iff];exact fun h5=>h4 h5.1.2.2)
   ·simp only [if_neg h3]
    exact Evs.done (by simp only [Bool.false_eq_true,false_iff];exact fun h5=>h3 h5.1.2.1)
  ·simp only [if_neg h2]
   exact Evs.done (by simp only [Bool.false_eq_true,false_iff];exact fun h5=>h2 h5.1.1)
theorem specB_j0_true (a0 a1:Bool) (a2 a3 a4:Int) (l:List Rc):Evs (fun k=>Qr.j0 k true a0 a1 a2 a3 a4 l) (fun b=>b=false):=by
 refine Evs.succ ?_
 simp only [Qr.j0,if_true]
 exact Evs.done rfl
theorem specB_evs (a0 a1:Bool) (a2 a3 a4:Int) (l:List Rc) (hl:smallRs l):Evs (fun k=>Qr.f k a0 a1 a2 a3 a4 l) (fun b=>b=true↔VB a1 a2 a3 a4 l):=by
 have hr:=specRecs_loop l hl l.length 0 (by omega) (by omega)
 have no:∀ {P:Prop},¬ P→∀ b:Bool,b=false→(b=true↔P):=fun hP b hb=>by rw [hb];simp only [Bool.false_eq_true,false_iff];exact hP
 unfold Qr.f
 unfold Qj.f
 refine Evs.bind hr ?_
 intro t ht
 by_cases h:t=true
 ·obtain ⟨hRF,hl1⟩:=ht.1 h
  simp only [if_pos h,spec_l6In_eq,bsome,decide_eq_true_eq]
  by_cases h2 : 0≤a2∧a2≤255
  ·simp only [if_pos h2]
   by_cases h3 : 0≤a3∧a3≤99
   ·simp only [if_pos h3]
    by_cases h4 : 0≤a4∧a4≤9999
    ·simp only [decide_eq_true h4,Bool.not_true]
     refine Evs.succ ?_
     simp only [Qr.j0,Bool.false_eq_true,if_false]
     unfold VB
     by_cases h5:a2=255
     ·simp only [if_pos h5]
      by_cases h6:a3=0
      ·simp only [if_pos h6]
       by_cases h7:a4=0
       ·simp only [if_pos h7]
        refine Evs.done ?_
        cases a1
        ·simp;exact ⟨⟨h6,h7⟩,hl1,hRF⟩
        ·simp
       ·simp only [if_neg h7]
        exact Evs.done (no (fun h8=>h7 h8.1.2.1) _ rfl)
      ·simp only [if_neg h6]
       exact Evs.done (no (fun h8=>h6 h8.1.1) _ rfl)
     ·simp only [if_neg h5]
      cases a1 with
      | true=>
       simp only [if_true]
       refine Evs.done ?_
       simp only [beq_iff_eq]
       exact ⟨fun h8=>⟨⟨by omega,h3,h4⟩,hl1,fun _=>by omega,hRF⟩,fun h8=>by have:=h8.2.2.1 trivial;omega⟩
      | false=>
       simp only [Bool.false_eq_true,if_false]
       refine Evs.done ?_
       simp only [true_iff]
       exact ⟨⟨by omega,h3,h4⟩,hl1,(fun h8=>h8.elim),hRF⟩
    ·simp only [decide_eq_false h4,Bool.not_false]
     refine (specB_j0_true a0 a1 a2 a3 a4 l).mono (no ?_)
     unfold VB
     split
     ·rintro ⟨⟨_,h8,_⟩,_⟩
      exact h4 (by omega)
     ·exact fun h8=>h4 h8.1.2.2
   ·simp only [if_neg h3]
    refine (specB_j0_true a0 a1 a2 a3 a4 l).mono (no ?_)
    unfold VB
    split
    ·rintro ⟨⟨h8,_,_⟩,_⟩
     exact h3 (by omega)
    ·exact fun h8=>h3 h8.1.2.1
  ·simp only [if_neg h2]
   refine (specB_j0_true a0 a1 a2 a3 a4 l).mono (no ?_)
   unfold VB
   split
   ·rename_i h8
    exact fun _=>h2 (by omega)
   ·exact fun h8=>h2 (by have:=h8.1.1;omega)
 ·simp only [if_neg h]
  refine (specB_j0_true a0 a1 a2 a3 a4 l).mono (no ?_)
  exact fun h8=>h (ht.2 ⟨h8.2.2.2,h8.2.1⟩)
open Classical in
noncomputable def vb (a1:Bool) (a2 a3 a4:Int) (l:List Rc):Bool:=decide (VB a1 a2 a3 a4 l)
theorem vb_iff (a1:Bool) (a2 a3 a4:Int) (l:List Rc):vb a1 a2 a3 a4 l=true↔VB a1 a2 a3 a4 l:=by unfold vb;simp
theorem implB (a0 a1:Bool) (a2 a3 a4:Int) (l:List Rc) (hl:smallRs l):Ev (fun k=>Qe.f k a0 a1 a2 a3 a4 l) (vb a1 a2 a3 a4 l):=by
 obtain ⟨b,hb,h⟩:=implB_evs a0 a1 a2 a3 a4 l hl
 rw [show vb a1 a2 a3 a4 l=b by rw [Bool.eq_iff_iff,vb_iff,h]]
 exact hb
theorem specB (a0 a1:Bool) (a2 a3 a4:Int) (l:List Rc) (hl:smallRs l):Ev (fun k=>Qr.f k a0 a1 a2 a3 a4 l) (vb a1 a2 a3 a4 l):=by
 obtain ⟨b,hb,h⟩:=specB_evs a0 a1 a2 a3 a4 l hl
 rw [show vb a1 a2 a3 a4 l=b by rw [Bool.eq_iff_iff,vb_iff,h]]
 exact hb
theorem bytes_of {l:List Int} (h:∀ x∈l,(Lit.int .u8 x).wf=true):Bytes l:=by
 intro x hx
 have:=h x hx
 simp [Lit.wf,IntKind.min,IntKind.max,IntKind.signed,IntKind.bits] at this
 omega
theorem open_ev (l:List Int) (h:Bytes l):∃ b,Rj.f l=some (b,0)∧Bytes b∧b.length≤2000:=by
 unfold Rj.f
 by_cases hc:(l.length:Int) > 2000
 ·rw [if_pos hc,if_pos (by omega)]
  exact ⟨_,rfl,fun x hx=>h x (List.mem_of_mem_take hx),by rw [length_take];omega⟩
 ·rw [if_neg hc]
  exact ⟨_,rfl,h,by omega⟩
theorem lim2 {n c:Nat} (h:n≤2000) (hc : 2000 < c):n < c:=by omega
theorem part_loop (bs:List Int) (hb:Bytes bs) (hl:bs.length≤2000):∀ (d:Nat) (l:List Int) (n i p:Int),n - i≤d→0≤i→(l.length:Int)≤i→(l.length:Int)≤12→n≤12→0≤p→p+2 * d≤900000000 →
  Evs (fun k=>Qk.l0 k l n i bs p) (fun r=>r.2.1.length≤12∧p≤r.2.2∧r.2.2≤p+2 * d):=by
 intro d
 induction d with
 | zero=>
  intro l n i p hd hi hll h12 hn h0 h1
  refine Evs.succ ?_
  simp only [Qk.l0,if_neg (show ¬ i < n by omega)]
  exact Evs.done ⟨by dsimp only;omega,by dsimp only;omega,by dsimp only;omega⟩
 | succ d ih=>
  intro l n i p hd hi hll h12 hn h0 h1
  refine Evs.succ ?_
  by_cases hlt:i < n
  ·have e1:wrap64 (i+1)=i+1:=wrap_id (by omega) (by omega)
   simp only [Qk.l0,if_pos hlt,bsome,e1]
   refine Evs.bind (pick_evs bs p 256 hb hl h0 (by omega) (by omega)) ?_
   rintro ⟨u,_⟩ ⟨u0,u1,rfl⟩
   refine Evs.bind (pick_evs bs (p+1) 4 hb hl (by omega) (by omega) (by omega)) ?_
   rintro ⟨v,_⟩ ⟨v0,v1,rfl⟩
   simp only [if_pos v0,if_pos (show v < (([1,2,3,u]:List Int).length:Int) from v1),if_pos (show l.length < 17592186044416 from lim2 (by omega) (by omega))]
   have h:=ih (l ++ [rd [1,2,3,u] v]) n (i+1) (p+1+1) (by omega) (by omega) (by simp;omega) (by simp;omega) hn (by omega) (by omega)
   exact h.mono (fun r hr=>⟨hr.1,by have:=hr.2.1;omega,by have:=hr.2.2;omega⟩)
  ·simp only [Qk.l0,if_neg hlt]
   exact Evs.done ⟨by dsimp only;omega,by dsimp only;omega,by dsimp only;omega⟩
theorem part_evs (bs:List Int) (hb:Bytes bs) (hl:bs.length≤2000) (p:Int) (h0 : 0≤p) (h1:p≤800000000):Evs (fun k=>Qk.f k bs p) (fun r=>r.2.1.length≤12∧p≤r.2.2∧r.2.2≤p+30):=by
 unfold Qk.f
 refine Evs.bind (pick_evs bs p 4 hb hl h0 (by omega) (by omega)) ?_
 rintro ⟨u,_⟩ ⟨u0,u1,rfl⟩
 by_cases hu:u=0
 ·simp only [if_pos hu]
  exact Evs.done ⟨by simp,by dsimp only;omega,by dsimp only;omega⟩
 ·simp only [if_neg hu,bsome]
  refine Evs.bind (pick_evs bs (p+1) 5 hb hl (by omega) (by omega) (by omega)) ?_
  rintro ⟨v,_⟩ ⟨v0,v1,rfl⟩
  refine Evs.bind (pick_evs bs (p+1+1) 12 hb hl (by omega) (by omega) (by omega)) ?_
  rintro ⟨x,_⟩ ⟨x0,x1,rfl⟩
  by_cases hx:x=0
  ·simp only [if_pos hx]
   refine Evs.succ ?_
   simp only [Qk.j0]
   have h:=part_loop bs hb hl 12 [] 12 0 (p+1+1+1) (by omega) (by omega) (by simp) (by simp) (by omega) (by omega) (by omega)
   exact h.mono (fun r hr=>⟨hr.1,by have:=hr.2.1;omega,by have:=hr.2.2;omega⟩)
  ·simp only [if_neg hx]
   refine Evs.succ ?_
   simp only [Qk.j0]
   have h:=part_loop bs hb hl 12 [] v 0 (p+1+1+1) (by omega) (by omega) (by simp) (by simp) (by omega) (by omega) (by omega)
   exact h.mono (fun r hr=>⟨hr.1,by have:=hr.2.1;omega,by have:=hr.2.2;omega⟩)
def drawnR (n:Nat) (l:List Rc):Prop:=l.length≤n∧∀ r∈l,r.f3.length≤12∧r.f5.length≤12
theorem drawnR_small {n:Nat} (hn:n≤100000) {l:List Rc} (h:drawnR n l):smallRs l:=⟨by have:=h.1;omega,fun r hr=>⟨by have:=(h.2 r hr).1;omega,by have:=(h.2 r hr).2;omega⟩⟩
theorem drawnR_add {n:Nat} {l:List Rc} (h:drawnR n l) {r:Rc} (h3:r.f3.length≤12) (h5:r.f5.length≤12):drawnR (n+1) (l ++ [r]):=by
 refine ⟨by have:=h.1;simp;omega,fun x hx=>?_⟩
 rcases List.mem_append.1 hx with hx|hx
 ·exact h.2 x hx
 ·rw [List.mem_singleton.1 hx]
  exact ⟨h3,h5⟩
theorem drawnR_mono {n m:Nat} {l:List Rc} (h:drawnR n l) (hm:n≤m):drawnR m l:=⟨by have:=h.1;omega,h.2⟩
theorem recs_loop (bs:List Int) (hb:Bytes bs) (hl:bs.length≤2000) (n:Int) (hn:n≤100):∀ (d:Nat) (o:Int) (l:List Rc) (t i p:Int),n - i≤d→0≤i→drawnR i.toNat l→(0 < i→0 < l.length)→0≤p→p+70 * d≤700000000 →
  Evs (fun k=>Qg.l0 k o l n t i bs p) (fun r=>drawnR (max i n).toNat r.1∧(0 < max i n→0 < r.1.length)∧p≤r.2∧r.2≤p+70 * d):=by
 intro d
 induction d with
 | zero=>
  intro o l t i p hd hi hll hpos h0 h1
  refine Evs.succ ?_
  simp only [Qg.l0,if_neg (show ¬ i < n by omega)]
  exact Evs.done ⟨by dsimp only;exact drawnR_mono hll (by omega),by dsimp only;intro h;exact hpos (by omega),by dsimp only;omega,by dsimp only;omega⟩
 | succ d ih=>
  intro o l t i p hd hi hll hpos h0 h1
  refine Evs.succ ?_
  by_cases hlt:i < n
  ·have e1:wrap64 (i+1)=i+1:=wrap_id (by omega) (by omega)
   have hlen:=hll.1
   simp only [Qg.l0,if_pos hlt]
   refine Evs.bind (part_evs bs hb hl p h0 (by omega)) ?_
   rintro ⟨kh,kl,p1⟩ ⟨hk,q0,q1⟩
   dsimp only at hk q0 q1 ⊢
   refine Evs.bind (part_evs bs hb hl p1 (by omega) (by omega)) ?_
   rintro ⟨vh,vl,p2⟩ ⟨hv,q2,q3⟩
   dsimp only at hv q2 q3 ⊢
   have main:∀ (c:Bool) (q:Int),0≤q→p≤q→q≤p2+1→Evs (fun k=>Qg.j1 k o l n t i vh vl c bs q o t kh kl false) (fun r=>drawnR (max i n).toNat r.1∧(0 < max i n→0 < r.1.length)∧p≤r.2∧r.2≤p+70 * (d+1:Nat)):=by
    intro c q hq0 hq1 hq2
    refine Evs.succ ?_
    have hlim:l.length < 1759218604441:=lim2 (by omega) (by omega)
    cases c with
    | true=>
     simp only [Qg.j1,if_true,if_pos hlim,e1]
     refine Evs.bind (pick_evs bs q 3 hb hl (by omega) (by omega) (by omega)) ?_
     rintro ⟨u,_⟩ ⟨u0,u1,rfl⟩
     refine Evs.bind (pick_evs bs (q+1) 5 hb hl (by omega) (by omega) (by omega)) ?_
     rintro ⟨v,_⟩ ⟨v0,v1,rfl⟩
     refine Evs.bind (pick_evs bs (q+1+1) 30 hb hl (by omega) (by omega) (by omega)) ?_
     rintro ⟨x,_⟩ ⟨x0,x1,rfl⟩
     have h:=ih (wrap64 (wrap64 (o+1)+wrap64 (Int.tdiv v 4))) (l ++ [⟨o,t,kh,[u],vh,vl⟩]) (mx (wrap64 (wrap64 (t+x) - 6)) 0) (i+1) (q+1+1+1) (by omega) (by omega) (drawnR_mono (drawnR_add hll (by simp) hv) (by omega)) (fun _=>by simp) (by omega) (by omega)
     rw [show max (i+1) n=max i n by omega] at h
     exact h.mono (fun r hr=>⟨hr.1,hr.2.1,by have:=hr.2.2.1;omega,by have:=hr.2.2.2;omega⟩)
    | false=>
     simp only [Qg.j1,Bool.false_eq_true,if_false,if_pos hlim,e1]
     refine Evs.bind (pick_evs bs q 5 hb hl (by omega) (by omega) (by omega)) ?_
     rintro ⟨v,_⟩ ⟨v0,v1,rfl⟩
     refine Evs.bind (pick_evs bs (q+1) 30 hb hl (by omega) (by omega) (by omega)) ?_
     rintro ⟨x,_⟩ ⟨x0,x1,rfl⟩
     have h:=ih (wrap64 (wrap64 (o+1)+wrap64 (Int.tdiv v 4))) (l ++ [⟨o,t,kh,kl,vh,vl⟩]) (mx (wrap64 (wrap64 (t+x) - 6)) 0) (i+1) (q+1+1) (by omega) (by omega) (drawnR_mono (drawnR_add hll hk hv) (by omega)) (fun _=>by simp) (by omega) (by omega)
     rw [show max (i+1) n=max i n by omega] at h
     exact h.mono (fun r hr=>⟨hr.1,hr.2.1,by have:=hr.2.2.1;omega,by have:=hr.2.2.2;omega⟩)
   by_cases hkh:kh=true
   ·simp only [if_pos hkh]
    refine Evs.bind (pick_evs bs p2 2 hb hl (by omega) (by omega) (by omega)) ?_
    rintro ⟨u,_⟩ ⟨u0,u1,rfl⟩
    exact main (u==0) (p2+1) (by omega) (by omega) (by omega)
   ·simp only [if_neg hkh]
    exact main false p2 (by omega) (by omega) (by omega)
  ·simp only [Qg.l0,if_neg hlt]
   exact Evs.done ⟨by dsimp only;exact drawnR_mono hll (by omega),by dsimp only;intro h;exact hpos (by omega),by dsimp only;omega,by dsimp only;omega⟩
theorem recs_evs (bs:List Int) (hb:Bytes bs) (hl:bs.length≤2000) (p o m:Int) (h0 : 0≤p) (h1:p≤600000000) (hm : 1≤m) (hm2:m≤10):Evs (fun k=>Qg.f k bs p o m) (fun r=>drawnR m.toNat r.1∧0 < r.1.length∧p≤r.2∧r.2≤p+800):=by
 unfold Qg.f
 refine Evs.bind (pick_evs bs p m hb hl h0 (by omega) hm) ?_
 rintro ⟨u,_⟩ ⟨u0,u1,rfl⟩
 refine Evs.bind (pick_evs bs (p+1) 200 hb hl (by omega) (by omega) (by omega)) ?_
 rintro ⟨v,_⟩ ⟨v0,v1,rfl⟩
 simp only [show wrap64 (1+u)=1+u from wrap_id (by omega) (by omega)]
 have h:=recs_loop bs hb hl (1+u) (by omega) 10 o [] v 0 (p+1+1) (by omega) (by omega) ⟨by simp,fun r hr=>by cases hr⟩ (fun h=>by omega) (by omega) (by omega)
 exact h.mono (fun r hr=>⟨drawnR_mono hr.1 (by omega),hr.2.1 (by omega),by have:=hr.2.2.1;omega,by have:=hr.2.2.2;omega⟩)
def drawnB (p:Int) (c:Int) (r:Bool×Bool×Int×Int×Int×List Rc×Int):Prop:=drawnR 5 r.2.2.2.2.2.1∧0 < r.2.2.2.2.2.1.length∧p≤r.2.2.2.2.2.2∧r.2.2.2.2.2.2≤p+c∧0≤r.2.2.1
theorem batch_j0 (bs:List Int) (hb:Bytes bs) (hl:bs.length≤2000) (p:Int) (h0 : 0≤p) (h1:p≤600000000) (a0 a1:Bool) (a2 a3 a4:Int) (l:List Rc) (hd:drawnR 4 l) (hpos : 0 < l.length) (ha2 : 0≤a2):Evs (fun k=>Qh.j0 k bs p a0 a1 a2 a3 a4 l) (drawnB p 2):=by
 have hlen:=hd.1
 refine Evs.succ ?_
 simp only [Qh.j0]
 refine Evs.bind (pick_evs bs p 40 hb hl h0 (by omega) (by omega)) ?_
 rintro ⟨u,_⟩ ⟨u0,u1,rfl⟩
 by_cases hu:u=0
 ·simp only [if_pos hu,bsome]
  refine Evs.bind (pick_evs bs (p+1) 3 hb hl (by omega) (by omega) (by omega)) ?_
  rintro ⟨v,_⟩ ⟨v0,v1,rfl⟩
  simp only [if_pos v0,if_pos (show v < (([(-1),1,100]:List Int).length:Int) from v1)]
  exact Evs.done ⟨drawnR_mono hd (by omega),hpos,by dsimp only;omega,by dsimp only;omega,ha2⟩
 ·simp only [if_neg hu]
  by_cases hu1:u=1
  ·simp only [if_pos hu1,if_pos (show 0 < (l.length:Int) by omega),if_pos (show l.length < 1759218604441 from lim2 (by omega) (by omega))]
   have h0m:Qc l 0∈l:=by
    show rr l ((0:Nat):Int)∈l
    rw [rr_nat l 0 hpos]
    exact List.getElem_mem hpos
   exact Evs.done ⟨drawnR_add hd (hd.2 _ h0m).1 (hd.2 _ h0m).2,by simp,by dsimp only;omega,by dsimp only;omega,ha2⟩
  ·simp only [if_neg hu1]
   by_cases hu2:u=2
   ·simp only [if_pos hu2]
    exact Evs.done ⟨drawnR_mono hd (by omega),hpos,by dsimp only;omega,by dsimp only;omega,ha2⟩
   ·simp only [if_neg hu2]
    exact Evs.done ⟨drawnR_mono hd (by omega),hpos,by dsimp only;omega,by dsimp only;omega,ha2⟩
theorem drawnB_mono {p q c c' : Int} {r:Bool×Bool×Int×Int×Int×List Rc×Int} (h:drawnB p c r) (h1:q≤p) (h2:p+c≤q+c'):drawnB q c' r:=⟨h.1,h.2.1,by have:=h.2.2.1;omega,by have:=h.2.2.2.1;omega,h.2.2.2.2⟩
theorem batch_evs (bs:List Int) (hb:Bytes bs) (hl:bs.length≤2000) (p o:Int) (h0 : 0≤p) (h1:p≤500000000):Evs (fun k=>Qh.f k bs p o) (drawnB p 900):=by
 unfold Qh.f
 refine Evs.bind (pick_evs bs p 2 hb hl h0 (by omega) (by omega)) ?_
 rintro ⟨u,_⟩ ⟨u0,u1,rfl⟩
 refine Evs.bind (recs_evs bs hb hl (p+1) o 4 (by omega) (by omega) (by omega) (by omega)) ?_
 rintro ⟨l,q⟩ ⟨hd,hpos,q0,q1⟩
 dsimp only at hd hpos q0 q1 ⊢
 refine Evs.bind (pick_evs bs q 3 hb hl (by omega) (by omega) (by omega)) ?_
 rintro ⟨v,_⟩ ⟨v0,v1,rfl⟩
 by_cases hv:v=0
 ·simp only [if_pos hv]
  refine Evs.bind (pick_evs bs (q+1) 3 hb hl (by omega) (by omega) (by omega)) ?_
  rintro ⟨x,_⟩ ⟨x0,x1,rfl⟩
  refine Evs.bind (pick_evs bs (q+1+1) 3 hb hl (by omega) (by omega) (by omega)) ?_
  rintro ⟨y,_⟩ ⟨y0,y1,rfl⟩
  refine Evs.bind (pick_evs bs (q+1+1+1) 5 hb hl (by omega) (by omega) (by omega)) ?_
  rintro ⟨z,_⟩ ⟨z0,z1,rfl⟩
  refine Evs.bind (pick_evs bs (q+1+1+1+1) 3 hb hl (by omega) (by omega) (by omega)) ?_
  rintro ⟨s,_⟩ ⟨s0,s1,rfl⟩
  by_cases hs:s=0
  ·simp only [if_pos hs]
   refine Evs.bind (pick_evs bs (q+1+1+1+1+1) 200 hb hl (by omega) (by omega) (by omega)) ?_
   rintro ⟨t,_⟩ ⟨t0,t1,rfl⟩
   refine Evs.bind (pick_evs bs (q+1+1+1+1+1+1) 2 hb hl (by omega) (by omega) (by omega)) ?_
   rintro ⟨e,_⟩ ⟨e0,e1,rfl⟩
   refine (batch_j0 bs hb hl _ (by omega) (by omega) _ _ _ _ _ _ ⟨by simp,fun r hr=>?_⟩ (by simp) x0).mono (fun r hr=>drawnB_mono hr (by omega) (by omega))
   rw [List.mem_singleton.1 hr]
   exact ⟨by simp,by simp⟩
  ·simp only [if_neg hs]
   exact (batch_j0 bs hb hl _ (by omega) (by omega) _ _ _ _ _ _ hd hpos (by omega)).mono (fun r hr=>drawnB_mono hr (by omega) (by omega))
 ·simp only [if_neg hv]
  exact (batch_j0 bs hb hl _ (by omega) (by omega) _ _ _ _ _ _ hd hpos (by omega)).mono (fun r hr=>drawnB_mono hr (by omega) (by omega))
end Go.Proofs.Ytmophgccpnpgfaa.Q
namespace Go.Proofs.Ytmophgccpnpgfaa.Q
set_option linter.unusedVariables false
set_option linter.unusedSimpArgs false
theorem pairwise_of_next {α:Type} {R : α→α→Prop} (tr:∀ a b c,R a b→R b c→R a c) {l:List α} (h:∀ j (h:j+1 < l.length),R (l[j]'(by omega)) l[j+1]):l.Pairwise R:=by
 rw [List.pairwise_iff_getElem]
 intro i j hi hj hij
 obtain ⟨d,rfl⟩:∃ d,j=i+1+d:=⟨j - i - 1,by omega⟩
 clear hij
 induction d with
 | zero=>exact h i (by omega)
 | succ d ih=>exact tr _ _ _ (ih (by omega)) (h (i+1+d) (by omega))
theorem next_of_pairwise {α:Type} {R : α→α→Prop} {l:List α} (h:l.Pairwise R) (j:Nat) (hj:j+1 < l.length):R (l[j]'(by omega)) l[j+1]:=
 List.pairwise_iff_getElem.1 h j (j+1) (by omega) hj (by omega)
end Go.Proofs.Ytmophgccpnpgfaa.Q
namespace Go.Proofs.Ytmophgccpnpgfaa.Q
open Go.RowKit Go.Proofs.Ytmophgccpnpgfaa.T Go.Proofs.YtmophgccpnpgfaaW.PrintWords Go.Proofs.YtmophgccpnpgfaaW.PrintLast
set_option linter.unusedVariables false
set_option linter.unusedSimpArgs false
abbrev Pr:=S67
abbrev rp (l:List Pr) (i:Int):Pr:=Qd l i
theorem rp_nat (l:List Pr) (j:Nat) (h:j < l.length):rp l (j:Int)=l[j]:=by
 unfold rp Qd
 rw [Int.toNat_natCast,List.getD_eq_getElem?_getD,List.getElem?_eq_getElem h]
 rfl
theorem Pr_ext {a b:Pr} (h0:a.f0=b.f0) (h1:a.f1=b.f1) (h2:a.f2=b.f2):a=b:=by
 cases a
 cases b
 simp at h0 h1 h2
 rw [h0,h1,h2]
instance:DecidableEq Pr:=fun a b=>decidable_of_iff (a.f0=b.f0∧a.f1=b.f1∧a.f2=b.f2) ⟨fun h=>Pr_ext h.1 h.2.1 h.2.2,fun h=>by rw [h];exact ⟨rfl,rfl,rfl⟩⟩
theorem drop_atP {l:List Pr} {i:Nat} (h:i < l.length):l.drop i=rp l i::l.drop (i+1):=by
 rw [List.drop_eq_getElem_cons h,rp_nat l i h]
def okP (t:Pr):Prop:=(0≤t.f0∧t.f0≤254)∧(0≤t.f1∧t.f1≤99)∧(0≤t.f2∧t.f2≤99999)
def ltP (a b:Pr):Prop:=a.f0 < b.f0
def PF (l:List Pr) (i:Nat):Prop:=∀ j,i≤j→j < l.length→okP (rp l j)∧(0 < j→ltP (rp l ((j:Int) - 1)) (rp l j))
def VP (l:List Pr):Prop:=l.length≤20∧PF l 0
open Classical in
noncomputable def vp (l:List Pr):Bool:=decide (VP l)
theorem vp_iff (l:List Pr):vp l=true↔VP l:=by unfold vp;simp
theorem prodsAll_vp (l:List Pr):prodsAll l=vp l:=by
 rw [Bool.eq_iff_iff,vp_iff]
 unfold prodsAll VP PF
 rw [Bool.and_eq_true,decide_eq_true_eq,decide_eq_true_eq]
 refine ⟨fun h=>⟨h.1,fun j _ hj=>?_⟩,fun h=>⟨h.1,fun j hj=>?_⟩⟩
 ·have:=h.2 j hj
  unfold prodAt at this
  rw [decide_eq_true_eq] at this
  exact this
 ·unfold prodAt
  rw [decide_eq_true_eq]
  exact h.2 j (Nat.zero_le _) hj
theorem implPValid (l:List Pr) (hl:l.length≤1000000000000):Ev (fun k=>Qq.f k l) (vp l):=by
 unfold Qq.f
 rw [prodsAll_vp]
 exact ev_some _
theorem specPValid (l:List Pr) (hl:l.length≤1000000000000):Ev (fun k=>Qm.f k l) (vp l):=by
 unfold Qm.f
 rw [prodsAll_vp]
 exact ev_some _
theorem ltP_trans {a b c:Pr} (h:ltP a b) (h' : ltP b c):ltP a c:=Int.lt_trans h h'
theorem VP_iff (l:List Pr):VP l↔l.length≤20∧(∀ t∈l,okP t)∧l.Pairwise ltP:=by
 constructor
 ·rintro ⟨h8,hv⟩
  refine ⟨h8,?_,pairwise_of_next (R:=ltP) (fun _ _ _=>ltP_trans) ?_⟩
  ·intro t ht
   obtain ⟨j,hj,rfl⟩:=List.getElem_of_mem ht
   have:=(hv j (Nat.zero_le _) hj).1
   rwa [rp_nat l j hj] at this
  ·intro j hj
   have:=(hv (j+1) (Nat.zero_le _) hj).2 (by omega)
   rw [rp_nat l (j+1) hj] at this
   rw [show ((j+1:Nat):Int) - 1=(j:Int) by omega,rp_nat l j (by omega)] at this
   exact this
 ·rintro ⟨h8,hok,hp⟩
  refine ⟨h8,fun j _ hj=>⟨?_,fun h0=>?_⟩⟩
  ·rw [rp_nat l j hj]
   exact hok _ (List.getElem_mem hj)
  ·obtain ⟨i,rfl⟩:∃ i,j=i+1:=⟨j - 1,by omega⟩
   rw [rp_nat l (i+1) hj,show ((i+1:Nat):Int) - 1=(i:Int) by omega,rp_nat l i (by omega)]
   exact next_of_pairwise hp i hj
theorem lim {n c:Nat} (h:n≤2000) (hc : 2000 < c):n < c:=by omega
theorem prods_end (bs:List Int) (hb:Bytes bs) (hl:bs.length≤2000) (l:List Pr) (h4:l.length≤4) (f:Bool) (hf:f=true→0 < l.length) (p:Int) (h0 : 0≤p) (h1:p≤2000000) :
  Evs (fun k=>Qi.j1 k l f bs p) (fun r=>r.1.length≤4∧p≤r.2∧r.2≤p+2):=by
 refine Evs.succ ?_
 cases f with
 | false=>
  simp only [Qi.j1,Bool.false_eq_true,if_false]
  exact Evs.done ⟨h4,by dsimp only;omega,by dsimp only;omega⟩
 | true=>
  have hpos:=hf rfl
  simp only [Qi.j1,if_true,bsome]
  refine Evs.bind (pick_evs bs p (l.length:Int) hb hl h0 (by omega) (by omega)) ?_
  rintro ⟨v,_⟩ ⟨v0,v1,rfl⟩
  refine Evs.bind (pick_evs bs (p+1) 2 hb hl (by omega) (by omega) (by omega)) ?_
  rintro ⟨u,_⟩ ⟨u0,u1,rfl⟩
  simp only [if_pos u0,if_pos (show u < (([(-1),100]:List Int).length:Int) from u1),if_pos v0,if_pos v1]
  exact Evs.done ⟨by dsimp only;rw [List.length_set];exact h4,by dsimp only;omega,by dsimp only;omega⟩
theorem prods_loop (bs:List Int) (hb:Bytes bs) (hl:bs.length≤2000):∀ (d:Nat) (l:List Pr) (i p:Int),4 - i=d→0≤i→(l.length:Int)≤i→0≤p→p+3 * d≤1000000 →
  Evs (fun k=>Qi.l0 k l i bs p) (fun r=>r.1.length≤4∧p≤r.2∧r.2≤p+3 * d+3):=by
 intro d
 induction d with
 | zero=>
  intro l i p hd hi hll h0 h1
  refine Evs.succ ?_
  simp only [Qi.l0,if_neg (show ¬ i < 4 by omega)]
  by_cases hz:(l.length:Int) > 0
  ·simp only [if_pos hz]
   refine Evs.bind (pick_evs bs p 24 hb hl h0 (by omega) (by omega)) ?_
   rintro ⟨v,_⟩ ⟨v0,v1,rfl⟩
   have h:=prods_end bs hb hl l (by omega) (v==0) (fun _=>by omega) (p+1) (by omega) (by omega)
   exact h.mono (fun r hr=>⟨hr.1,by have:=hr.2.1;omega,by have:=hr.2.2;omega⟩)
  ·simp only [if_neg hz]
   have h:=prods_end bs hb hl l (by omega) false (fun h=>by cases h) p (by omega) (by omega)
   exact h.mono (fun r hr=>⟨hr.1,by have:=hr.2.1;omega,by have:=hr.2.2;omega⟩)
 | succ d ih=>
  intro l i p hd hi hll h0 h1
  have e1:wrap64 (i+1)=i+1:=wrap_id (by omega) (by omega)
  refine Evs.succ ?_
  simp only [Qi.l0,if_pos (show i < 4 by omega),e1]
  refine Evs.bind (pick_evs bs p 3 hb hl h0 (by omega) (by omega)) ?_
  rintro ⟨v,_⟩ ⟨v0,v1,rfl⟩
  by_cases hv:v > 0
  ·simp only [if_pos hv]
   refine Evs.bind (pick_evs bs (p+1) 3 hb hl (by omega) (by omega) (by omega)) ?_
   rintro ⟨u,_⟩ ⟨u0,u1,rfl⟩
   refine Evs.bind (pick_evs bs (p+1+1) 6 hb hl (by omega) (by omega) (by omega)) ?_
   rintro ⟨x,_⟩ ⟨x0,x1,rfl⟩
   simp only [if_pos (show l.length < 5864062014805 from lim (by omega) (by omega))]
   have h:=ih (l ++ [⟨i,u,x⟩]) (i+1) (p+1+1+1) (by omega) (by omega) (by simp;omega) (by omega) (by omega)
   exact h.mono (fun r hr=>⟨hr.1,by have:=hr.2.1;omega,by have:=hr.2.2;omega⟩)
  ·simp only [if_neg hv]
   have h:=ih l (i+1) (p+1) (by omega) (by omega) (by omega) (by omega) (by omega)
   exact h.mono (fun r hr=>⟨hr.1,by have:=hr.2.1;omega,by have:=hr.2.2;omega⟩)
theorem prods_evs (bs:List Int) (hb:Bytes bs) (hl:bs.length≤2000) (p:Int) (h0 : 0≤p) (h1:p≤900000):Evs (fun k=>Qi.f k bs p) (fun r=>r.1.length≤4∧p≤r.2∧r.2≤p+15):=by
 unfold Qi.f
 have h:=prods_loop bs hb hl 4 [] 0 p (by omega) (by omega) (by simp) h0 (by omega)
 refine Evs.mono h (fun r hr=>?_)
 exact ⟨hr.1,hr.2.1,by have:=hr.2.2;omega⟩
def drawnN (r:List Pr×Bool×Bool×Int×Int×Int×List Rc×Int):Prop:=r.1.length≤4∧drawnR 5 r.2.2.2.2.2.2.1
theorem numbered_evs (bs:List Int) (hb:Bytes bs) (hl:bs.length≤2000) (p:Int) (h0 : 0≤p) (h1:p≤100000):Evs (fun k=>Qf.f k bs p) drawnN:=by
 unfold Qf.f
 refine Evs.bind (prods_evs bs hb hl p h0 (by omega)) ?_
 rintro ⟨l,q⟩ ⟨h4,q0,q1⟩
 dsimp only at h4 q0 q1 ⊢
 refine Evs.bind (pick_evs bs q 40 hb hl (by omega) (by omega) (by omega)) ?_
 rintro ⟨u,_⟩ ⟨u0,u1,rfl⟩
 refine Evs.bind (batch_evs bs hb hl (q+1) u (by omega) (by omega)) ?_
 rintro ⟨b0,b1,b2,b3,b4,rs,p2⟩ ⟨hd,hpos,p0,p1,_⟩
 dsimp only at hd hpos p0 p1 ⊢
 by_cases hz:(l.length:Int) > 0
 ·simp only [if_pos hz]
  refine Evs.bind (pick_evs bs p2 4 hb hl (by omega) (by omega) (by omega)) ?_
  rintro ⟨v,_⟩ ⟨v0,v1,rfl⟩
  refine Evs.succ ?_
  by_cases hv:v > 0
  ·simp only [Qf.j0,decide_eq_true hv,if_true]
   refine Evs.bind (pick_evs bs (p2+1) (l.length:Int) hb hl (by omega) (by omega) (by omega)) ?_
   rintro ⟨x,_⟩ ⟨x0,x1,rfl⟩
   simp only [if_pos x0,if_pos x1]
   refine Evs.bind (pick_evs bs (p2+1+1) 6 hb hl (by omega) (by omega) (by omega)) ?_
   rintro ⟨y,_⟩ ⟨y0,y1,rfl⟩
   by_cases hy:y=0
   ·simp only [if_pos hy]
    refine Evs.bind (pick_evs bs (p2+1+1+1) 5 hb hl (by omega) (by omega) (by omega)) ?_
    rintro ⟨z,_⟩ ⟨z0,z1,rfl⟩
    exact Evs.done ⟨h4,hd⟩
   ·simp only [if_neg hy]
    by_cases hy1:y=1
    ·simp only [if_pos hy1]
     refine Evs.bind (pick_evs bs (p2+1+1+1) 3 hb hl (by omega) (by omega) (by omega)) ?_
     rintro ⟨z,_⟩ ⟨z0,z1,rfl⟩
     refine Evs.bind (pick_evs bs (p2+1+1+1+1) 2 hb hl (by omega) (by omega) (by omega)) ?_
     rintro ⟨s,_⟩ ⟨s0,s1,rfl⟩
     exact Evs.done ⟨h4,hd⟩
    ·simp only [if_neg hy1]
     exact Evs.done ⟨h4,hd⟩
  ·simp only [Qf.j0,decide_eq_false hv,Bool.false_eq_true,if_false]
   exact Evs.done ⟨h4,hd⟩
 ·simp only [if_neg hz]
  refine Evs.succ ?_
  simp only [Qf.j0,Bool.false_eq_true,if_false]
  exact Evs.done ⟨h4,hd⟩
def drawnC (r:List Pr×Bool×Bool×Int×Int×Int×List Rc):Prop:=r.1.length≤4∧smallRs r.2.2.2.2.2.2
theorem drawPutP {l0:List Int} (hb:Bytes l0):Evs (fun k=>Qy.f k l0) drawnC:=by
 obtain ⟨b,ho,hb2,hbl⟩:=open_ev l0 hb
 unfold Qy.f
 simp only [ho,bsome]
 refine Evs.bind (numbered_evs b hb2 hbl 0 (by omega) (by omega)) ?_
 rintro r ⟨h4,hd⟩
 exact Evs.done ⟨h4,drawnR_small (by omega) hd⟩
theorem VP_mem {l:List Pr} (h:VP l):∀ t∈l,okP t:=((VP_iff l).1 h).2.1
theorem VP_sorted {l:List Pr} (h:VP l):l.Pairwise ltP:=((VP_iff l).1 h).2.2
theorem VP_ids {l:List Pr} (h:VP l):idsOk l=true:=by
 unfold idsOk
 rw [List.all_eq_true]
 intro t ht
 have:=(VP_mem h t ht).1
 simp
 omega
theorem VB_prod {a1:Bool} {a2 a3 a4:Int} {rs:List Rc} (h:VB a1 a2 a3 a4 rs) : 0≤a2∧a2≤255:=by
 have:=h.1
 split at this
 ·omega
 ·omega
theorem prodOk_of {l:List Pr} (h:VP l) {a1:Bool} {a2 a3 a4:Int} {rs:List Rc} (hb:VB a1 a2 a3 a4 rs):prodOk l a2=true:=by
 have:=VB_prod hb
 unfold prodOk
 rw [VP_ids h]
 simp
 omega
def slotOf (t:Pr):SlotV:=⟨true,t.f0,t.f1,t.f2⟩
theorem fold_not:∀ (l:List Pr) (f:Nat→SlotV) (i:Nat),(∀ t∈l,t.f0.toNat≠i)→l.foldl slotPut f i=f i
 | [],f,i,h=>rfl
 | a::l,f,i,h=>by
  rw [List.foldl_cons,fold_not l (slotPut f a) i (fun t ht=>h t (List.mem_cons_of_mem _ ht))]
  unfold slotPut
  rw [if_neg (fun e=>h a List.mem_cons_self e.symm)]
theorem fold_mem:∀ (l:List Pr) (f:Nat→SlotV),l.Pairwise ltP→(∀ t∈l,0≤t.f0)→∀ t∈l,l.foldl slotPut f t.f0.toNat=slotOf t
 | [],f,hs,h0,t,ht=>by cases ht
 | a::l,f,hs,h0,t,ht=>by
  rw [List.foldl_cons]
  rw [List.pairwise_cons] at hs
  rcases List.mem_cons.1 ht with rfl|ht
  ·rw [fold_not l _ _ (fun s hs'=>by
    have h1:=hs.1 s hs'
    have h2:=h0 s (List.mem_cons_of_mem _ hs')
    have h3:=h0 t List.mem_cons_self
    unfold ltP at h1
    omega)]
   unfold slotPut slotOf
   rw [if_pos rfl]
  ·exact fold_mem l _ hs.2 (fun s hs'=>h0 s (List.mem_cons_of_mem _ hs')) t ht
theorem slotFn_mem {l:List Pr} (h:VP l) (t:Pr) (ht:t∈l):slotFn l t.f0.toNat=slotOf t:=fold_mem l _ (VP_sorted h) (fun s hs=>(VP_mem h s hs).1.1) t ht
theorem slotFn_not {l:List Pr} (h:VP l) (i:Nat) (hi:∀ t∈l,t.f0≠(i:Int)):slotFn l i=slot0:=by
 unfold slotFn
 rw [fold_not l _ i (fun t ht e=>hi t ht (by have:=(VP_mem h t ht).1.1;omega))]
def findP (l:List Pr) (p:Int):Option Pr:=l.find? (fun t=>t.f0==p)
theorem findP_some {l:List Pr} {p:Int} {t:Pr} (h:findP l p=some t):t∈l∧t.f0=p:=by
 unfold findP at h
 exact ⟨List.mem_of_find?_eq_some h,by have:=List.find?_some h;simpa using this⟩
theorem findP_none {l:List Pr} {p:Int} (h:findP l p=none):∀ t∈l,t.f0≠p:=by
 intro t ht
 have:=List.find?_eq_none.1 h t ht
 simpa using this
theorem findP_of {l:List Pr} (hs:l.Pairwise ltP) {t:Pr} (ht:t∈l):findP l t.f0=some t:=by
 cases h:findP l t.f0 with
 | none=>exact absurd rfl (findP_none h t ht)
 | some s=>
  obtain ⟨h1,h2⟩:=findP_some h
  obtain ⟨i,hi,rfl⟩:=List.getElem_of_mem h1
  obtain ⟨j,hj,rfl⟩:=List.getElem_of_mem ht
  have:i=j:=by
   rcases Nat.lt_trichotomy i j with h3|h3|h3
   ·have:=List.pairwise_iff_getElem.1 hs i j hi hj h3
    unfold ltP at this
    omega
   ·exact h3
   ·have:=List.pairwise_iff_getElem.1 hs j i hj hi h3
    unfold ltP at this
    omega
  subst this
  rfl
def codeP (l:List Pr) (p e s:Int):Int:=
 if p=255 then 4 else match findP l p with
  | some t=>if t.f1 > e then 3 else if t.f1=e then seqCode s t.f2 else seqCode s 0
  | none=>seqCode s 0
theorem codeAt_eq {l:List Pr} (h:VP l) (p e s:Int) (h0 : 0≤p):codeAt (slotFn l) p e s=codeP l p e s:=by
 unfold codeAt codeP
 by_cases hp:p=255
 ·rw [if_pos hp,if_pos hp]
 ·rw [if_neg hp,if_neg hp]
  cases hf:findP l p with
  | none=>
   rw [slotFn_not h p.toNat (fun t ht=>by have:=findP_none hf t ht;omega)]
   rfl
  | some t=>
   obtain ⟨h1,h2⟩:=findP_some hf
   subst h2
   rw [slotFn_mem h t h1]
   rfl
theorem codeP_ne5 (l:List Pr) (p e s:Int):codeP l p e s≠5:=by
 unfold codeP seqCode
 split
 ·omega
 ·split <;> repeat' (split <;> try omega)
noncomputable def pcode (l:List Pr) (a1:Bool) (a2 a3 a4:Int) (rs:List Rc):Int:=if vp l=true then (if vb a1 a2 a3 a4 rs=true then codeP l a2 a3 a4 else 5) else 5
theorem implCheck (l:List Pr) (hl:l.length≤1000000000000) (a0 a1:Bool) (a2 a3 a4:Int) (rs:List Rc) (hr:smallRs rs):Ev (fun k=>Rg.f k l a0 a1 a2 a3 a4 rs) (pcode l a1 a2 a3 a4 rs):=by
 unfold Rg.f pcode
 refine Ev.bind (implPValid l hl) ?_
 by_cases h:vp l=true
 ·simp only [if_pos h]
  refine Ev.bind (implB a0 a1 a2 a3 a4 rs hr) ?_
  by_cases h2:vb a1 a2 a3 a4 rs=true
  ·have hV:=(vp_iff l).1 h
   have hB:=(vb_iff _ _ _ _ _).1 h2
   simp only [if_pos h2,if_pos (prodOk_of hV hB),codeAt_eq hV a2 a3 a4 (VB_prod hB).1]
   exact ev_some _
  ·simp only [if_neg h2]
   exact ev_some _
 ·simp only [if_neg h]
  exact ev_some _
def atP (l:List Pr) (x:Int):Int:=match l.findIdx? (fun t=>t.f0==x) with
 | some i=>i
 | none=>-1
theorem atP_cases (l:List Pr) (x:Int):(atP l x = -1∧findP l x=none∧∀ j,j < l.length→(rp l (j:Int)).f0≠x)∨∃ i:Nat,i < l.length∧atP l x=i∧findP l x=some (rp l (i:Int))∧(rp l (i:Int)).f0=x∧∀ j,j < i→(rp l (j:Int)).f0≠x:=by
 unfold atP findP
 cases h:l.findIdx? (fun t=>t.f0==x) with
 | none=>
  rw [List.findIdx?_eq_none_iff] at h
  refine .inl ⟨rfl,List.find?_eq_none.2 (fun t ht=>by have:=h t ht;simpa using this),fun j hj=>?_⟩
  have:=h l[j] (List.getElem_mem hj)
  rw [rp_nat l j hj]
  simpa using this
 | some i=>
  rw [List.findIdx?_eq_some_iff_getElem] at h
  obtain ⟨hi,h1,h2⟩:=h
  refine .inr ⟨i,hi,rfl,?_,?_,fun j hj=>?_⟩
  ·rw [rp_nat l i hi,List.find?_eq_some_iff_getElem]
   exact ⟨h1,i,hi,rfl,fun j hj=>by have:=h2 j hj;simpa using this⟩
  ·rw [rp_nat l i hi];simpa using h1
  ·rw [rp_nat l j (by omega)]
   have:=h2 j hj
   simpa using this
theorem specAtP_loop (l:List Pr) (x:Int) (hl:l.length≤1000000000000):∀ (d i:Nat),l.length - i=d→i≤l.length→(∀ j,j < i→(rp l (j:Int)).f0≠x)→Ev (fun k=>Qw.l0 k l x (i:Int)) (atP l x):=by
 intro d
 induction d with
 | zero=>
  intro i hd hi hn
  refine ev_succ ?_
  simp only [Qw.l0,if_neg (show ¬ (i:Int) < (l.length:Int) by omega)]
  rcases atP_cases l x with ⟨h,_⟩|⟨j,hj,h,_,h1,_⟩
  ·rw [h];exact ev_some _
  ·exact absurd h1 (hn j (by omega))
 | succ d ih=>
  intro i hd hi hn
  have e1:wrap64 ((i:Int)+1)=((i+1:Nat):Int):=by rw [wrap_id (by omega) (by omega)];omega
  refine ev_succ ?_
  by_cases h:(rp l (i:Int)).f0=x
  ·simp only [Qw.l0,if_pos (show (i:Int) < (l.length:Int) by omega),if_pos (show (0:Int)≤i by omega),if_pos h]
   rcases atP_cases l x with ⟨_,_,h2⟩|⟨j,hj,h2,_,h3,h4⟩
   ·exact absurd h (h2 i (by omega))
   ·have:j=i:=by
     rcases Nat.lt_trichotomy j i with h5|h5|h5
     ·exact absurd h3 (hn j h5)
     ·exact h5
     ·exact absurd h (h4 i h5)
    rw [h2,this]
    exact ev_some _
  ·simp only [Qw.l0,if_pos (show (i:Int) < (l.length:Int) by omega),if_pos (show (0:Int)≤i by omega),if_neg h,e1]
   refine ih (i+1) (by omega) (by omega) (fun j hj=>?_)
   by_cases e:j=i
   ·subst e;exact h
   ·exact hn j (by omega)
theorem specAtP (l:List Pr) (x:Int) (hl:l.length≤1000000000000):Ev (fun k=>Qw.f k l x) (atP l x):=by
 unfold Qw.f
 exact specAtP_loop l x hl l.length 0 (by omega) (by omega) (fun j hj=>by omega)
theorem spec_seq (n:Int) (a0 a1:Bool) (a2 a3 a4:Int) (rs:List Rc):Ev (fun k=>Qs.j0 k n a0 a1 a2 a3 a4 rs) (seqCode a4 n):=by
 refine ev_succ ?_
 unfold seqCode
 simp only [Qs.j0]
 by_cases h:a4 < n
 ·simp only [if_pos h];exact ev_some _
 ·simp only [if_neg h]
  by_cases h2:a4 > n
  ·simp only [if_pos h2];exact ev_some _
  ·simp only [if_neg h2];exact ev_some _
theorem specCode (l:List Pr) (hl:l.length≤1000000000000) (a0 a1:Bool) (a2 a3 a4:Int) (rs:List Rc):Ev (fun k=>Qs.f k l a0 a1 a2 a3 a4 rs) (codeP l a2 a3 a4):=by
 unfold Qs.f codeP
 by_cases hp:a2=255
 ·simp only [if_pos hp];exact ev_some _
 ·simp only [if_neg hp]
  refine Ev.bind (specAtP l a2 hl) ?_
  rcases atP_cases l a2 with ⟨h,hf,_⟩|⟨i,hi,h,hf,h1,_⟩
  ·rw [h,hf]
   simp only [if_neg (show ¬ ((-1:Int) ≥ 0) by omega)]
   exact spec_seq _ _ _ _ _ _ _
  ·rw [h,hf]
   simp only [if_pos (show (i:Int) ≥ 0 by omega),if_pos (show (0:Int)≤i by omega),if_pos (show (i:Int) < (l.length:Int) by omega)]
   by_cases h2:a3 < (rp l (i:Int)).f1
   ·simp only [if_pos h2,if_pos (show (rp l (i:Int)).f1 > a3 from h2)];exact ev_some _
   ·simp only [if_neg h2,if_neg (show ¬ (rp l (i:Int)).f1 > a3 from h2)]
    by_cases h3:a3=(rp l (i:Int)).f1
    ·simp only [if_pos h3,if_pos h3.symm]
     exact spec_seq _ _ _ _ _ _ _
    ·simp only [if_neg h3,if_neg (fun h4=>h3 (Eq.symm h4))]
     exact spec_seq _ _ _ _ _ _ _
theorem specCheck (l:List Pr) (hl:l.length≤1000000000000) (a0 a1:Bool) (a2 a3 a4:Int) (rs:List Rc) (hr:smallRs rs):Ev (fun k=>Qt.f k l a0 a1 a2 a3 a4 rs) (pcode l a1 a2 a3 a4 rs):=by
 unfold Qt.f pcode
 refine Ev.bind (specPValid l hl) ?_
 by_cases h:vp l=true
 ·simp only [if_pos h]
  refine Ev.bind (specB a0 a1 a2 a3 a4 rs hr) ?_
  by_cases h2:vb a1 a2 a3 a4 rs=true
  ·simp only [if_pos h2]
   exact Ev.bind (specCode l hl a0 a1 a2 a3 a4 rs) (ev_some _)
  ·simp only [if_neg h2]
   exact ev_some _
 ·simp only [if_neg h]
  exact ev_some _
theorem seqCode_self (s:Int):seqCode s s=0:=by
 unfold seqCode
 rw [if_neg (by omega),if_neg (by omega)]
theorem pcode_cases (l:List Pr) (a1:Bool) (a2 a3 a4:Int) (rs:List Rc) (h:pcode l a1 a2 a3 a4 rs≠5):VP l∧VB a1 a2 a3 a4 rs∧pcode l a1 a2 a3 a4 rs=codeP l a2 a3 a4:=by
 unfold pcode at h ⊢
 by_cases h1:vp l=true
 ·by_cases h2:vb a1 a2 a3 a4 rs=true
  ·rw [if_pos h1,if_pos h2]
   exact ⟨(vp_iff l).1 h1,(vb_iff _ _ _ _ _).1 h2,rfl⟩
  ·rw [if_pos h1,if_neg h2] at h
   exact absurd rfl h
 ·rw [if_neg h1] at h
  exact absurd rfl h
theorem pcode_of {l:List Pr} (h:VP l) {a1:Bool} {a2 a3 a4:Int} {rs:List Rc} (hb:VB a1 a2 a3 a4 rs):pcode l a1 a2 a3 a4 rs=codeP l a2 a3 a4:=by
 unfold pcode
 rw [if_pos ((vp_iff l).2 h),if_pos ((vb_iff _ _ _ _ _).2 hb)]
theorem sameP_loop (a:List Pr) (hs:a.length≤1000000000000):∀ (d i:Nat),a.length - i=d→i≤a.length→Ev (fun k=>Ql.l0 k a a (i:Int)) true:=by
 intro d
 induction d with
 | zero=>
  intro i hd hi
  refine ev_succ ?_
  simp only [Ql.l0,if_neg (show ¬ (i:Int) < (a.length:Int) by omega)]
  exact ev_some _
 | succ d ih=>
  intro i hd hi
  have e1:wrap64 ((i:Int)+1)=((i+1:Nat):Int):=by rw [wrap_id (by omega) (by omega)];omega
  refine ev_succ ?_
  simp only [Ql.l0,if_pos (show (i:Int) < (a.length:Int) by omega),if_pos (show (0:Int)≤i by omega),beq_self_eq_true,Bool.not_true,Bool.or_self,Bool.false_eq_true,if_false,e1]
  exact ih (i+1) (by omega) (by omega)
theorem sameP (a:List Pr) (hs:a.length≤1000000000000):Ev (fun k=>Ql.f k a a) true:=by
 unfold Ql.f
 simp only [if_true]
 exact sameP_loop a hs a.length 0 (by omega) (by omega)
abbrev ltk (p:Int) (s:Pr):Bool:=decide (s.f0 < p)
abbrev gtk (p:Int) (s:Pr):Bool:=decide (s.f0 > p)
abbrev nek (p:Int) (s:Pr):Bool:=decide (s.f0≠p)
def insP (l:List Pr) (t:Pr):List Pr:=l.filter (ltk t.f0)++t::l.filter (gtk t.f0)
theorem insP_mem {l:List Pr} {t s:Pr} : s∈insP l t↔s=t∨(s∈l∧s.f0≠t.f0):=by
 unfold insP
 simp only [List.mem_append,List.mem_cons,List.mem_filter,decide_eq_true_eq]
 constructor
 ·rintro (⟨h,h2⟩|h|⟨h,h2⟩)
  ·exact .inr ⟨h,by omega⟩
  ·exact .inl h
  ·exact .inr ⟨h,by omega⟩
 ·rintro (h|⟨h,h2⟩)
  ·exact .inr (.inl h)
  ·rcases Int.lt_or_gt_of_ne h2 with h3|h3
   ·exact .inl ⟨h,h3⟩
   ·exact .inr (.inr ⟨h,h3⟩)
theorem insP_sorted {l:List Pr} (h:l.Pairwise ltP) (t:Pr):(insP l t).Pairwise ltP:=by
 unfold insP
 rw [List.pairwise_append]
 refine ⟨h.filter _,?_,?_⟩
 ·rw [List.pairwise_cons]
  refine ⟨fun s hs=>?_,h.filter _⟩
  have:=(List.mem_filter.1 hs).2
  simp only [decide_eq_true_eq] at this
  exact this
 ·intro s hs u hu
  have h1:=(List.mem_filter.1 hs).2
  simp only [decide_eq_true_eq] at h1
  rcases List.mem_cons.1 hu with rfl|hu
  ·exact h1
  ·have h2:=(List.mem_filter.1 hu).2
   simp only [decide_eq_true_eq] at h2
   exact Int.lt_trans h1 h2
theorem insP_len (l:List Pr) (t:Pr):(insP l t).length≤l.length+l.length+1:=by
 unfold insP
 have h1:=List.length_filter_le (ltk t.f0) l
 have h2:=List.length_filter_le (gtk t.f0) l
 simp only [List.length_append,List.length_cons]
 omega
theorem sorted_at:∀ {l:List Pr},l.Pairwise ltP→∀ t∈l,l.filter (ltk (t.f0+1))=l.filter (ltk t.f0) ++ [t]
 | [],_,t,ht=>by cases ht
 | a::l,h,t,ht=>by
  rw [List.pairwise_cons] at h
  rcases List.mem_cons.1 ht with rfl|ht
  ·rw [List.filter_cons_of_pos (by simp only [decide_eq_true_eq];omega),List.filter_cons_of_neg (by simp),List.filter_eq_nil_iff.2,List.filter_eq_nil_iff.2]
   ·rfl
   ·intro s hs
    have:=h.1 s hs
    unfold ltP at this
    simp only [decide_eq_true_eq]
    omega
   ·intro s hs
    have:=h.1 s hs
    unfold ltP at this
    simp only [decide_eq_true_eq]
    omega
  ·have h1:=h.1 t ht
   unfold ltP at h1
   rw [List.filter_cons_of_pos (by simp only [decide_eq_true_eq];omega),List.filter_cons_of_pos (by simp only [decide_eq_true_eq];omega),sorted_at h.2 t ht]
   rfl
theorem slotList_of {F:Nat→SlotV} {l:List Pr} (hs:l.Pairwise ltP) (h0:∀ t∈l,0≤t.f0∧t.f0 < 255) (h1:∀ t∈l,F t.f0.toNat=slotOf t) (h2:∀ i:Nat,i < 255→(∀ t∈l,t.f0≠(i:Int))→(F i).u=false) :
  ∀ n:Nat,n≤255→slotList F n=l.filter (ltk (n:Int)):=by
 intro n
 induction n with
 | zero=>
  intro _
  rw [List.filter_eq_nil_iff.2]
  ·rfl
  ·intro t ht
   have:=h0 t ht
   simp only [decide_eq_true_eq]
   omega
 | succ n ih=>
  intro hn
  have ih:=ih (by omega)
  by_cases hex:∃ t∈l,t.f0=(n:Int)
  ·obtain ⟨t,ht,hk⟩:=hex
   have hf:=h1 t ht
   rw [hk,Int.toNat_natCast] at hf
   rw [slotList_yes F n (by rw [hf];rfl),ih,hf]
   have h3:=sorted_at hs t ht
   rw [hk] at h3
   rw [show ((n+1:Nat):Int)=(n:Int)+1 by omega,h3]
   rfl
  ·have hno:∀ t∈l,t.f0≠(n:Int):=fun t ht hk=>hex ⟨t,ht,hk⟩
   rw [slotList_no F n (h2 n (by omega) hno),ih]
   refine List.filter_congr (fun t ht=>?_)
   have:=hno t ht
   rw [decide_eq_decide]
   omega
theorem slotList_all {F:Nat→SlotV} {l:List Pr} (hs:l.Pairwise ltP) (h0:∀ t∈l,0≤t.f0∧t.f0 < 255) (h1:∀ t∈l,F t.f0.toNat=slotOf t) (h2:∀ i:Nat,i < 255→(∀ t∈l,t.f0≠(i:Int))→(F i).u=false):slotList F 255=l:=by
 rw [slotList_of hs h0 h1 h2 255 (by omega),List.filter_eq_self]
 intro t ht
 have:=h0 t ht
 simp only [decide_eq_true_eq]
 omega
theorem slotList_back {l:List Pr} (h:VP l):slotList (slotFn l) 255=l:=
 slotList_all (VP_sorted h) (fun t ht=>by have:=(VP_mem h t ht).1;omega) (slotFn_mem h) (fun i _ hi=>by rw [slotFn_not h i hi];rfl)
theorem slotList_set {l:List Pr} (h:VP l) (p e n:Int) (h0 : 0≤p) (h1:p < 255):slotList (slotSet (slotFn l) p e n) 255=insP l ⟨p,e,n⟩:=by
 refine slotList_all (insP_sorted (VP_sorted h) _) ?_ ?_ ?_
 ·intro s hs
  rcases insP_mem.1 hs with rfl|⟨hs,_⟩
  ·exact ⟨h0,h1⟩
  ·have:=(VP_mem h s hs).1
   omega
 ·intro s hs
  unfold slotSet
  rcases insP_mem.1 hs with rfl|⟨hs,hne⟩
  ·rw [if_pos rfl]
   rfl
  ·have:=(VP_mem h s hs).1
   dsimp only at hne
   rw [if_neg (by omega)]
   exact slotFn_mem h s hs
 ·intro i hi hno
  have hp:p≠(i:Int):=hno ⟨p,e,n⟩ (insP_mem.2 (.inl rfl))
  unfold slotSet
  rw [if_neg (by omega),slotFn_not h i (fun t ht=>by
   by_cases hk:t.f0=p
   ·omega
   ·exact hno t (insP_mem.2 (.inr ⟨ht,hk⟩)))]
  rfl
def insGo (t:Pr):List Pr→List Pr
 | []=>[t]
 | a::r=>if a.f0 ≥ t.f0 then t::(a::r).filter (nek t.f0) else a::insGo t r
theorem insGo_eq (t:Pr):∀ {l:List Pr},l.Pairwise ltP→insGo t l=insP l t
 | [],_=>rfl
 | a::l,h=>by
  rw [List.pairwise_cons] at h
  unfold insGo insP
  by_cases ha:a.f0 ≥ t.f0
  ·have hnil:(a::l).filter (ltk t.f0) = []:=by
    rw [List.filter_eq_nil_iff]
    intro s hs
    simp only [decide_eq_true_eq]
    rcases List.mem_cons.1 hs with rfl|hs
    ·omega
    ·have:=h.1 s hs
     unfold ltP at this
     omega
   rw [if_pos ha,hnil,List.nil_append]
   congr 1
   refine List.filter_congr (fun s hs=>?_)
   rw [decide_eq_decide]
   rcases List.mem_cons.1 hs with rfl|hs
   ·omega
   ·have:=h.1 s hs
    unfold ltP at this
    omega
  ·rw [if_neg ha,List.filter_cons_of_pos (by simp only [decide_eq_true_eq];omega),List.filter_cons_of_neg (by simp only [decide_eq_true_eq];omega),insGo_eq t h.2]
   rfl
theorem specPut_done (l:List Pr) (hl:l.length≤1000000000) (p e n:Int):∀ (d i:Nat) (out:List Pr),l.length - i=d→i≤l.length→out.length≤i+1→Ev (fun k=>Qn.l0 k l out true (i:Int) p e n) (out++(l.drop i).filter (nek p)):=by
 intro d
 induction d with
 | zero=>
  intro i out hd hi ho
  refine ev_succ ?_
  rw [show l.drop i = [] from List.drop_eq_nil_of_le (by omega),List.filter_nil,List.append_nil]
  simp only [Qn.l0,if_neg (show ¬ (i:Int) < (l.length:Int) by omega),if_true]
  exact ev_some _
 | succ d ih=>
  intro i out hd hi ho
  have e1:wrap64 ((i:Int)+1)=((i+1:Nat):Int):=by rw [wrap_id (by omega) (by omega)];omega
  refine ev_succ ?_
  rw [drop_atP (show i < l.length by omega)]
  simp only [Qn.l0,if_pos (show (i:Int) < (l.length:Int) by omega),if_true]
  refine ev_succ ?_
  simp only [Qn.j1,Bool.false_eq_true,if_false,if_pos (show (i:Int) < (l.length:Int) by omega),if_pos (show (0:Int)≤i by omega),e1]
  by_cases h:(rp l (i:Int)).f0=p
  ·rw [List.filter_cons_of_neg (by simp only [decide_eq_true_eq];omega)]
   simp only [if_pos h]
   exact ih (i+1) out (by omega) (by omega) (by omega)
  ·rw [List.filter_cons_of_pos (by simp only [decide_eq_true_eq];exact h)]
   simp only [if_neg h,if_pos (show out.length < 5864062014805 by omega)]
   have:=ih (i+1) (out ++ [rp l (i:Int)]) (by omega) (by omega) (by simp;omega)
   rw [List.append_assoc] at this
   exact this
theorem specPut_go (l:List Pr) (hl:l.length≤1000000000) (p e n:Int):∀ (d i:Nat) (out:List Pr),l.length - i=d→i≤l.length→out.length≤i→Ev (fun k=>Qn.l0 k l out false (i:Int) p e n) (out++insGo ⟨p,e,n⟩ (l.drop i)):=by
 intro d
 induction d with
 | zero=>
  intro i out hd hi ho
  refine ev_succ ?_
  rw [show l.drop i = [] from List.drop_eq_nil_of_le (by omega)]
  simp only [Qn.l0,if_neg (show ¬ (i:Int) < (l.length:Int) by omega),Bool.false_eq_true,if_false,if_pos (show out.length < 5864062014805 by omega)]
  exact ev_some _
 | succ d ih=>
  intro i out hd hi ho
  have e1:wrap64 ((i:Int)+1)=((i+1:Nat):Int):=by rw [wrap_id (by omega) (by omega)];omega
  refine ev_succ ?_
  rw [drop_atP (show i < l.length by omega)]
  unfold insGo
  simp only [Qn.l0,if_pos (show (i:Int) < (l.length:Int) by omega),Bool.false_eq_true,if_false,if_pos (show (0:Int)≤i by omega)]
  refine ev_succ ?_
  by_cases hge:(rp l (i:Int)).f0 ≥ p
  ·simp only [Qn.j1,decide_eq_true hge,if_true,if_pos hge,if_pos (show out.length < 5864062014805 by omega),bsome,if_pos (show (i:Int) < (l.length:Int) by omega),if_pos (show (0:Int)≤i by omega),e1]
   by_cases h:(rp l (i:Int)).f0=p
   ·rw [List.filter_cons_of_neg (by simp only [decide_eq_true_eq];omega)]
    simp only [if_pos h]
    have:=specPut_done l hl p e n d (i+1) (out ++ [⟨p,e,n⟩]) (by omega) (by omega) (by simp;omega)
    rw [List.append_assoc] at this
    exact this
   ·rw [List.filter_cons_of_pos (by simp only [decide_eq_true_eq];exact h)]
    simp only [if_neg h,if_pos (show (out ++ [(⟨p,e,n⟩:Pr)]).length < 5864062014805 by simp;omega)]
    have:=specPut_done l hl p e n d (i+1) (out ++ [⟨p,e,n⟩] ++ [rp l (i:Int)]) (by omega) (by omega) (by simp;omega)
    have h2:out ++ [(⟨p,e,n⟩:Pr)] ++ [rp l (i:Int)]++(l.drop (i+1)).filter (nek p)=out++(⟨p,e,n⟩:Pr)::rp l (i:Int)::(l.drop (i+1)).filter (nek p):=by simp
    rw [h2] at this
    exact this
  ·simp only [Qn.j1,decide_eq_false hge,Bool.false_eq_true,if_false,if_neg hge,if_pos (show (i:Int) < (l.length:Int) by omega),if_pos (show (0:Int)≤i by omega),if_neg (show ¬ (rp l (i:Int)).f0=p by omega),if_pos (show out.length < 5864062014805 by omega),e1]
   have:=ih (i+1) (out ++ [rp l (i:Int)]) (by omega) (by omega) (by simp;omega)
   rw [List.append_assoc] at this
   exact this
theorem specPutP (l:List Pr) (h:VP l) (p e n:Int):Ev (fun k=>Qn.f k l p e n) (insP l ⟨p,e,n⟩):=by
 unfold Qn.f
 have h20:=h.1
 have:=specPut_go l (by omega) p e n l.length 0 [] (by omega) (by omega) (by simp)
 rw [← insGo_eq _ (VP_sorted h)]
 simpa using this
abbrev newP (a2 a3 a4:Int) (rs:List Rc):Pr:=⟨a2,a3,wrap64 (a4+(rs.length:Int))⟩
noncomputable def pput (l:List Pr) (a1:Bool) (a2 a3 a4:Int) (rs:List Rc):List Pr×Int:=
 if pcode l a1 a2 a3 a4 rs=5 then ([],5) else if pcode l a1 a2 a3 a4 rs=0 then (if vp (insP l (newP a2 a3 a4 rs))=true then (insP l (newP a2 a3 a4 rs),0) else ([],5)) else (l,pcode l a1 a2 a3 a4 rs)
theorem codeP_zero {l:List Pr} {p e s:Int} (h:codeP l p e s=0):p≠255:=by
 rintro rfl
 have h2:codeP l 255 e s=4:=by unfold codeP;rw [if_pos rfl]
 rw [h2] at h
 omega
theorem implPutB (l:List Pr) (hl:l.length≤1000000000) (a0 a1:Bool) (a2 a3 a4:Int) (rs:List Rc) (hr:smallRs rs):Ev (fun k=>Qz.f k l a0 a1 a2 a3 a4 rs) (pput l a1 a2 a3 a4 rs):=by
 unfold Qz.f
 refine Ev.bind (implPValid l (by omega)) ?_
 by_cases h:vp l=true
 ·simp only [if_pos h]
  refine Ev.bind (implB a0 a1 a2 a3 a4 rs hr) ?_
  by_cases h2:vb a1 a2 a3 a4 rs=true
  ·have hV:=(vp_iff l).1 h
   have hB:=(vb_iff _ _ _ _ _).1 h2
   have hp:=VB_prod hB
   have hc:=codeAt_eq hV a2 a3 a4 hp.1
   have hpc:=pcode_of hV hB
   have h5:=codeP_ne5 l a2 a3 a4
   simp only [if_pos h2,if_pos (prodOk_of hV hB),hc]
   unfold pput
   rw [hpc,if_neg h5]
   unfold putSlots
   by_cases hz:codeP l a2 a3 a4=0
   ·have hne:=codeP_zero hz
    simp only [hc,if_pos hz,slotList_set hV a2 a3 _ hp.1 (by omega)]
    have h20:=hV.1
    have hln:=insP_len l (⟨a2,a3,wrap64 (a4+(rs.length:Int))⟩:Pr)
    refine Ev.bind (implPValid _ (by omega)) ?_
    by_cases hv:vp (insP l (newP a2 a3 a4 rs))=true
    ·simp only [if_pos hv,hz]
     exact ev_some _
    ·simp only [if_neg hv]
     exact ev_some _
   ·simp only [hc,if_neg hz,slotList_back hV]
    refine Ev.bind (implPValid l (by omega)) ?_
    simp only [if_pos h]
    exact ev_some _
  ·simp only [if_neg h2]
   have:pcode l a1 a2 a3 a4 rs=5:=by unfold pcode;rw [if_pos h,if_neg h2]
   unfold pput
   rw [if_pos this]
   exact ev_some _
 ·simp only [if_neg h]
  have:pcode l a1 a2 a3 a4 rs=5:=by unfold pcode;rw [if_neg h]
  unfold pput
  rw [if_pos this]
  exact ev_some _
theorem specPutB (l:List Pr) (hl:l.length≤1000000000) (a0 a1:Bool) (a2 a3 a4:Int) (rs:List Rc) (hr:smallRs rs):Ev (fun k=>Ra.f k l a0 a1 a2 a3 a4 rs) (pput l a1 a2 a3 a4 rs):=by
 unfold Ra.f pput
 refine Ev.bind (specCheck l (by omega) a0 a1 a2 a3 a4 rs hr) ?_
 by_cases h5:pcode l a1 a2 a3 a4 rs=5
 ·simp only [if_pos h5]
  exact ev_some _
 ·obtain ⟨hV,hB,hpc⟩:=pcode_cases l a1 a2 a3 a4 rs h5
  have h:=(vp_iff l).2 hV
  simp only [if_neg h5,bsome,List.length_nil,List.nil_append,if_pos (show 0+l.length < 5864062014805 by omega)]
  by_cases hz:pcode l a1 a2 a3 a4 rs=0
  ·simp only [if_pos hz]
   refine Ev.bind (specPutP l hV a2 a3 _) ?_
   have h20:=hV.1
   have hln:=insP_len l (⟨a2,a3,wrap64 (a4+(rs.length:Int))⟩:Pr)
   refine Ev.bind (specPValid _ (by omega)) ?_
   by_cases hv:vp (insP l (newP a2 a3 a4 rs))=true
   ·simp only [if_pos hv,hz]
    exact ev_some _
   ·simp only [if_neg hv]
    exact ev_some _
  ·simp only [if_neg hz]
   refine Ev.bind (specPValid l (by omega)) ?_
   simp only [if_pos h]
   exact ev_some _
theorem pput_cases (l:List Pr) (a1:Bool) (a2 a3 a4:Int) (rs:List Rc):pput l a1 a2 a3 a4 rs=([],5) ∨
  (VP l∧VB a1 a2 a3 a4 rs∧codeP l a2 a3 a4=0∧VP (insP l (newP a2 a3 a4 rs))∧pput l a1 a2 a3 a4 rs=(insP l (newP a2 a3 a4 rs),0)) ∨
  (VP l∧VB a1 a2 a3 a4 rs∧codeP l a2 a3 a4≠0∧pput l a1 a2 a3 a4 rs=(l,codeP l a2 a3 a4)):=by
 unfold pput
 by_cases h5:pcode l a1 a2 a3 a4 rs=5
 ·rw [if_pos h5]
  exact .inl rfl
 ·obtain ⟨hV,hB,hpc⟩:=pcode_cases l a1 a2 a3 a4 rs h5
  rw [if_neg h5,hpc]
  by_cases hz:codeP l a2 a3 a4=0
  ·rw [if_pos hz]
   by_cases hv:vp (insP l (newP a2 a3 a4 rs))=true
   ·rw [if_pos hv]
    exact .inr (.inl ⟨hV,hB,hz,(vp_iff _).1 hv,rfl⟩)
   ·rw [if_neg hv]
    exact .inl rfl
  ·rw [if_neg hz]
   exact .inr (.inr ⟨hV,hB,hz,rfl⟩)
theorem pput_len (l:List Pr) (hl:l.length≤100000) (a1:Bool) (a2 a3 a4:Int) (rs:List Rc):(pput l a1 a2 a3 a4 rs).1.length≤300000:=by
 rcases pput_cases l a1 a2 a3 a4 rs with h|⟨_,_,_,h2,h⟩|⟨h2,_,_,h⟩
 ·rw [h];simp
 ·rw [h];have:=h2.1;dsimp only;omega
 ·rw [h];dsimp only;omega
theorem findP_ins {l:List Pr} (h:l.Pairwise ltP) (t:Pr):findP (insP l t) t.f0=some t:=findP_of (insP_sorted h t) (insP_mem.2 (.inl rfl))
theorem newP_next {a1:Bool} {a2 a3 a4:Int} {rs:List Rc} (hB:VB a1 a2 a3 a4 rs):wrap64 (a4+(rs.length:Int))=a4+(rs.length:Int)∧a4 < a4+(rs.length:Int):=by
 obtain ⟨h1,h2,_⟩:=hB
 have : 0≤a4∧a4≤9999:=by
  split at h1
  ·omega
  ·exact h1.2.2
 exact ⟨wrap_id (by omega) (by omega),by omega⟩
end Go.Proofs.Ytmophgccpnpgfaa.Q
namespace Go.Proofs.Ytmophgccpnpgfaa.Pure
open Go.RowKit Go.Proofs.Ytmophgccpnpgfaa.T Go.Proofs.YtmophgccpnpgfaaW.PrintWords Go.Proofs.YtmophgccpnpgfaaW.PrintLast Go.Proofs.Ytmophgccpnpgfaa.Q
set_option linter.unusedVariables false
set_option linter.unusedSimpArgs false
theorem put_next {l:List Pr} (hV:VP l) {a1:Bool} {a2 a3 a4:Int} {rs:List Rc} (hB:VB a1 a2 a3 a4 rs) (hc:codeP l a2 a3 a4=0):codeP (insP l (newP a2 a3 a4 rs)) a2 a3 (wrap64 (a4+(rs.length:Int)))=0:=by
 obtain ⟨hw,hlt⟩:=newP_next hB
 unfold codeP
 rw [if_neg (codeP_zero hc),show findP (insP l (newP a2 a3 a4 rs)) a2=some (newP a2 a3 a4 rs) from findP_ins (VP_sorted hV) (newP a2 a3 a4 rs)]
 dsimp only
 rw [if_neg (by omega),if_pos rfl]
 exact seqCode_self _
theorem FnPutNext:laws_FnPutNext.Pure:=by
 intro l0 _ _ hb0
 refine Ev.rounds ?_
 have hb:=bytes_of hb0
 unfold laws_FnPutNext.f
 by_cases h:(l0.length:Int) > 1048576
 ·simp only [if_pos h]
  exact ev_some _
 ·simp only [if_neg h]
  obtain ⟨⟨l,a0,a1,a2,a3,a4,rs⟩,hd,h4,hrs⟩:=drawPutP hb
  dsimp only at h4 hrs
  have hlen:=pput_len l (by omega) a1 a2 a3 a4 rs
  refine Ev.bind hd ?_
  refine Ev.bind (implPutB l (by omega) a0 a1 a2 a3 a4 rs hrs) ?_
  refine Ev.bind (specPutB l (by omega) a0 a1 a2 a3 a4 rs hrs) ?_
  simp only [if_true]
  refine Ev.bind (sameP _ (by omega)) ?_
  simp only [if_true]
  have self:∀ o c,pput l a1 a2 a3 a4 rs=(o,c)→Ev (fun k=>laws_FnPutNext.j0 k o c o c true a0 a1 a2 a3 a4 rs) true:=by
   intro o c ho
   rw [ho] at hlen
   refine ev_succ ?_
   simp only [laws_FnPutNext.j0,if_true]
   exact Ev.bind (sameP o (by dsimp only at hlen;omega)) (ev_some _)
  rcases pput_cases l a1 a2 a3 a4 rs with hp|⟨hV,hB,hc,hV2,hp⟩|⟨hV,hB,hc,hp⟩
  ·have:=self _ _ hp
   rw [hp]
   exact this
  ·rw [hp]
   refine ev_succ ?_
   simp only [laws_FnPutNext.j0,bne_self_eq_false,Bool.false_eq_true,if_false]
   refine Ev.bind (implB a0 a1 a2 a3 (wrap64 (a4+(rs.length:Int))) rs hrs) ?_
   by_cases hx:vb a1 a2 a3 (wrap64 (a4+(rs.length:Int))) rs=true
   ·simp only [if_pos hx]
    have h20:=hV2.1
    have h2:=implCheck (insP l (newP a2 a3 a4 rs)) (by omega) a0 a1 a2 a3 (wrap64 (a4+(rs.length:Int))) rs hrs
    rw [pcode_of hV2 ((vb_iff _ _ _ _ _).1 hx),put_next hV hB hc] at h2
    exact Ev.bind h2 (ev_some _)
   ·simp only [if_neg hx]
    exact ev_some _
  ·have:=self _ _ hp
   rw [hp]
   simp only [show (codeP l a2 a3 a4 != 0)=true by simpa using hc]
   exact this
end Go.Proofs.Ytmophgccpnpgfaa.Pure
namespace Go.Proofs.Ytmophgccpnpgfaa.fnPutNext
open Go.ChangeShapes Go.WideShapes Go.ChangeAt Go.RowKit
open Go.ChangeMaps (open_string shut_string)
set_option linter.unusedVariables false
theorem own:ownKnob Try.prog.godebug=none:=by kernel_rfl
theorem laidOut:laidOutB Try.prog=true:=by kernel_rfl
def IsRow (k:IntKind) (w:World) (a:Option Addr) (len cap:Nat) (zs:List Int):Prop:=
 (a=none∧len=0∧cap=0∧zs = []) ∨
 ∃ x,a=some x∧len≤cap∧cap≤maxLen∧zs.length=cap∧(∀ i,i < zs.length→w.cell? (x.add i)=some (.int k (zs.getD i 0)))∧∀ n∈zs,(Lit.int k n).wf=true
theorem lifted (os:Os) (started:os.Started) (H:Type) (enc:TypeId×Value→H) :
  ReturnsInHanded {} Try.checked os 3 .any (Rows.fnPutNextSpec.pre6 enc Try.prog Try.f3 Rows.fnPutNextRow.domain false) (Rows.fnPutNextSpec.post enc Try.prog Try.f3 false true false false):=by
 refine returnsInHanded_of_change_sized (C:=Try.checked) own started (by kernel_rfl) Try.func3
  (ChangeSpec.witness6 (enc:=enc) (C:=Try.checked) false ⟨#[],#[.slice none 0 0],[]⟩ 8 (by kernel_rfl) (by kernel_rfl) (by kernel_rfl) (by kernel_rfl)) ?_
 intro W base args ds gs before hval0 hW hcnd hsz0 _
 have hsz:(DataW.weightsEach Try.prog (Try.f3.params.toList++Rows.fnPutNextSpec.plain.varTypes Try.prog) (ds++gs)).all (· ≤ reachBytes)=true:=hsz0
 have hval:∀ (j:Nat) t v,Try.f3.params[j]? = some t→args[j]? = some v→Value.okWide Try.prog W .any base t v:=hval0
 have hW':=hW
 obtain ⟨p,q,hA0,hV,rfl,hfz,hnd⟩:=hW
 have hA:DataW.TrodAll enc Try.prog W 0 (fun _=>true) true Try.f3.params.toList args.toList ds p:=hA0
 rw [Try.params3] at hA hval hsz
 obtain ⟨v0,vs0,d0,ds0,p0,q0,hargs,rfl,rfl,h0,r0⟩:=trodAll_cons hA
 obtain ⟨rfl,rfl,rfl⟩:=trodAll_nil r0
 obtain rfl:args = #[v0]:=by cases args;simp_all
 obtain ⟨rfl,rfl⟩:=trodVars_none hV
 obtain ⟨a0,len0,cap0,rfl⟩:=okWide_slice Try.underlying22 (hval 0 22 v0 rfl rfl)
 have k0:=h0
 have lt0:∀ x∈p0,x.block < W.heap.size:=by obtain ⟨m,hm⟩:=k0;exact DataW.trod_lt m _ _ _ hm
 obtain ⟨z0,w0⟩:∃ zs,IsRow .u8 W a0 len0 cap0 zs:=by
  obtain ⟨fuel,hf⟩:=h0
  rcases open_ints Try.underlying22 Try.underlying5 (by kernel_rfl) hf with ⟨hcs,_⟩|⟨x,l,c,zs,hcs,_,hl,hm,hz,_,hcell,hwz⟩
  ·simp [Value.cells] at hcs
   obtain ⟨rfl,rfl,rfl⟩:=hcs
   exact ⟨[],.inl ⟨rfl,rfl,rfl,rfl⟩⟩
  ·simp [Value.cells] at hcs
   obtain ⟨rfl,rfl,rfl⟩:=hcs
   exact ⟨zs,.inr ⟨_,rfl,hl,hm,by simpa using hz,hcell,hwz⟩⟩
 have y0:len0 * 1≤140737488351232:=Go.Proofs.YtmophgccpnpgfaaW.PrintWords.sized_ints hsz (j:=0) (t:=22) rfl rfl Try.underlying22 Try.underlying5 (by kernel_rfl) (by kernel_rfl) h0
 clear hA0 hval0 hsz0 hsz
 refine (T.laws_FnPutNext.walk Pure.FnPutNext a0 len0 cap0 z0 W w0 y0).mono fun e W' ⟨he,bel⟩=>?_
 subst he
 exact ⟨_,rfl,_,_,_,[],_,[],hW',trodAll_mk1 (shut_bool Try.underlying4 _),(trodAll_cons_mk (Below.trod laidOut (by kernel_rfl) (of_decide_eq_true (by kernel_rfl)) k0 bel lt0) trodAll_mk0),rfl,bel.frame _,fun h=>by cases h⟩
theorem closed:joinedFacts Try.prog 3 Try.f3 Rows.fnPutNextSpec Rows.fnPutNextRow=true:=
 Head.closed_of _ _ _ _ _ (by kernel_rfl) (by kernel_rfl) (by kernel_rfl) (by kernel_rfl) (by kernel_rfl) (by kernel_rfl) (by kernel_rfl) (by kernel_rfl) (by kernel_rfl) (by kernel_rfl) (by kernel_rfl) (by kernel_rfl) (by kernel_rfl) (by kernel_rfl) (by kernel_rfl) (by kernel_rfl) (by kernel_rfl) (by kernel_rfl) (by kernel_rfl) (by kernel_rfl) (by kernel_rfl) (by kernel_rfl) (by kernel_rfl) (by kernel_rfl) (by kernel_rfl) Head.may_enter (by rw [Head.lifts_final];kernel_rfl) (by rw [Head.make_is];kernel_rfl) (by kernel_rfl) (by kernel_rfl) (by kernel_rfl) (by kernel_rfl)
theorem over:Rows.fnPutNextRow.holds Try.pinned (OpenSpec.ofChange Rows.fnPutNextSpec):=
 OpenClaim.holds_of_wide 3 Try.f3 rfl rfl rfl rfl rfl rfl rfl ⟨rfl,rfl,rfl,rfl,rfl⟩ rfl rfl rfl rfl rfl (by kernel_rfl) Try.func3 closed
  (of_decide_eq_true (by kernel_rfl)) (by unfold Func.isWrapper;first|(rw [if_pos (by decide +kernel)];kernel_rfl)|(rw [if_neg (by decide +kernel)];exact ⟨rfl,rfl⟩))
  (fun os started H enc _=>lifted os started H enc)
theorem proved:Rows.FnPutNextSaid:=over
end Go.Proofs.Ytmophgccpnpgfaa.fnPutNext
namespace Go.Proofs.Ytmophgccpnpgfaa
theorem fnPutNext_holds:Rows.FnPutNextSaid:=fnPutNext.proved
end Go.Proofs.Ytmophgccpnpgfaa
