/- The law FnStateLast holds (part 3 of 7; merged by pack2.py). -/
import Derived.Test.YtkhjmhdgcmffaaaFnStateLastK1
open List (setIfInBounds_toArray set_cons_zero set_cons_succ map_toArray map_cons map_nil length_drop length_take)
namespace Go.Proofs.Ytkhjmhdgcmffaaa.U
open Go.RowKit Go.Proofs.YtkhjmhdgcmffaaaW.PrintWords Go.Proofs.YtkhjmhdgcmffaaaW.PrintLast Go.Proofs.YtkhjmhdgcmffaaaW.PrintMore
attribute [local go_sem] max2_int max_two
set_option linter.unusedVariables false
set_option linter.unusedSimpArgs false
def Qm.l0:Nat→List (S30)→Int→Option (Bool)
 | 0,_,_=>none
 | k+1,x0,x3=>if x3 < (x0.length:Int) then (if 0≤x3 then ((Q4.f k ((Qb x0 x3).f0) ((Qb x0 x3).f1) ((Qb x0 x3).f2) ((Qb x0 x3).f3) ((Qb x0 x3).f4) ((Qb x0 x3).f5)).bind fun t219=>(if t219=true then (if x3 > 0 then (if 0≤(wrap64 (x3 - 1)) then (if (wrap64 (x3 - 1)) < (x0.length:Int) then (if ((Qb x0 (wrap64 (x3 - 1))).f0) ≥ ((Qb x0 x3).f0) then (some false) else (Qm.l0 k x0 (wrap64 (x3+1)))) else (none)) else (none)) else (Qm.l0 k x0 (wrap64 (x3+1)))) else (some false))) else (none)) else ((Qr.f (x0.length:Int) 1 6).bind fun t222=>(some t222))
def Qm.f (k:Nat) (l0:List (S30)):Option (Bool):=Qm.l0 k l0 0
def Qm.T4:Bool×List (List Nat×List Nat):=(true,[([],[]),([],[]),([0,1],[0,1]),([2],[2]),([3],[3]),([4],[4]),([5,4],[5]),([6],[6]),([7,6],[6,7]),([8,6,6],[6,8]),([9],[9]),([9],[9]),([11,9],[9,11]),([10,12,9],[9,10,12]),([13,9],[9,13]),([14,9],[9,14]),([9],[9]),([9],[9]),([16,17,9],[9,16,17]),([18,9],[9,18]),([19,9],[9,19]),([15,20,9],[9,15,20]),([9,21,6],[6,9,21]),([6,22],[6,22])])
def Qm.B4:List Nat:=[0,0,3,7,15,31,63,127,255,511,1023,1023,3071,8191,16383,32767,1023,1023,197631,459775,984063,2097151,4194303,8388607]
theorem Qm.tab4:rtab .any (opsOf Try.f83 4)=Qm.T4:=by kernel_rfl
theorem Qm.bits4:waitsOk Qm.T4.2 Qm.B4=true:=by kernel_rfl
set_option maxHeartbeats 8000000 in
set_option maxRecDepth 100000 in
theorem Qm.calls (k:Nat) (A0:Option Addr) (c0:Nat) (l0:List (S30)) (r:Bool) (w:World) (hr0:Kd.C k30 w A0 l0.length l0) (hc0:l0.length≤c0) (h:Qm.f k l0=some r) :
  Calls Try.prog 83 #[.slice A0 l0.length c0] w fun e w'=>e = .returned (.bool r)∧Below w.heap.size w w':=by
 have hu30:=Try.underlying30;have HR0:=zzm hr0;have HC0:=zzm hc0;clear hr0 hc0;have HB:=zzm (Below.refl w.heap.size w);have H:(Qm.l0 k l0 0)=some r:=h;clear h;have H':=zzm H;clear H;go_enter Try.func83,Try.ntmps83;go_wp2;go_loopg [3] k (fun kq v3 w'=>∃ (x3_1:Int),v3 = .int .i64 x3_1∧Aside0 (Qm.l0 kq l0 x3_1=some r)∧Aside0 (kq≤k)∧Aside0 (Below w.heap.size w w'))
 case atStart=>exact ⟨(0),(by first|rfl|(simp;done)|(simp [*];done)),H',⟨Nat.le_refl _⟩,⟨zzh1⟩⟩
 case round=>
  clear H';obtain ⟨x3_1,rfl,HA,HK1,HB⟩:=hrel;cases gk with
  | zero=>exact absurd HA.out (by simp [Qm.l0])
  | succ k1=>
   have H:=HA.out;clear HA;simp only [Qm.l0] at H;by_cases c2:x3_1 < (l0.length:Int)
   ·
    rw [if_pos c2] at H;have c2b0:decide (x3_1 < (l0.length:Int))=true:=decide_eq_true c2;clear c2;by_cases c3 : 0≤x3_1
    ·
     rw [if_pos c3] at H;have c3b0:decide (0≤x3_1)=true:=decide_eq_true c3;clear c3;replace H:=Option.bind_eq_some_iff.mp H;obtain ⟨t219,A40,H⟩:=H;replace H:(if t219=true then (if x3_1 > 0 then (if 0≤(wrap64 (x3_1 - 1)) then (if (wrap64 (x3_1 - 1)) < (l0.length:Int) then (if ((Qb l0 (wrap64 (x3_1 - 1))).f0) ≥ ((Qb l0 x3_1).f0) then (some false) else (Qm.l0 k1 l0 (wrap64 (x3_1+1)))) else (none)) else (none)) else (Qm.l0 k1 l0 (wrap64 (x3_1+1)))) else (some false))=some r:=H;have A4:=zzm A40;clear A40;by_cases c5:t219=true
     ·
      subst c5;have H1:(if x3_1 > 0 then (if 0≤(wrap64 (x3_1 - 1)) then (if (wrap64 (x3_1 - 1)) < (l0.length:Int) then (if ((Qb l0 (wrap64 (x3_1 - 1))).f0) ≥ ((Qb l0 x3_1).f0) then (some false) else (Qm.l0 k1 l0 (wrap64 (x3_1+1)))) else (none)) else (none)) else (Qm.l0 k1 l0 (wrap64 (x3_1+1))))=some r:=by rw [if_pos rfl] at H;exact H
      clear H;have H:=H1;clear H1;by_cases c6:x3_1 > 0
      ·
       rw [if_pos c6] at H;have c6b0:decide (0 < x3_1)=true:=decide_eq_true c6;clear c6;obtain ⟨ji7,hji7⟩:∃ j_:Int,(wrap64 (x3_1 - 1))=j_:=⟨_,rfl⟩;replace H:(if 0≤(ji7) then (if (ji7) < (l0.length:Int) then (if ((Qb l0 (ji7)).f0) ≥ ((Qb l0 x3_1).f0) then (some false) else (Qm.l0 k1 l0 (wrap64 (x3_1+1)))) else (none)) else (none))=some r:=by first|(rw [hji7] at H;exact H)|(simp only [hji7] at H ⊢;exact H)
       (try rw [hji7] at A4);have hji7w:(IntKind.i64.wrap (x3_1 - 1))=ji7:=(i64_w _).trans hji7;by_cases c8 : 0≤(ji7)
       ·
        rw [if_pos c8] at H;have c8b0:decide (0≤(ji7))=true:=decide_eq_true c8;clear c8;by_cases c9:(ji7) < (l0.length:Int)
        ·
         rw [if_pos c9] at H;have c9b0:decide ((ji7) < (l0.length:Int))=true:=decide_eq_true c9;clear c9;by_cases c10:((Qb l0 (ji7)).f0) ≥ ((Qb l0 x3_1).f0)
         ·
          rw [if_pos c10] at H;have c10b0:decide (((Qb l0 x3_1).f0)≤((Qb l0 (ji7)).f0))=true:=decide_eq_true c10;clear c10;obtain rfl:=Option.some.inj H;try go_wp2
          have n0_:=zzm (zzc HB.out);clear HB;have HB:=n0_;clear n0_;have p218 : 0≤(x3_1:Int):=zzt;have q218:x3_1 < (l0.length:Int):=zzt;obtain ⟨ad218,A218_3,c218_3,A218_5,c218_5,e218,hx218_0,hx218_1,hx218_2,hx218_3,hx218_4,hx218_5,hl218_3,hi218_3,hl218_5,hi218_5⟩:=Qy HR0.out x3_1 p218 q218;have hw218_5:=hx218_5;have hw218_4:=hx218_4;have hw218_3:=hx218_3;have hw218_2:=hx218_2;have hw218_1:=hx218_1;have hw218_0:=hx218_0;cases e218;replace hx218_0:=zzx HB.out hx218_0;replace hx218_1:=zzx HB.out hx218_1;replace hx218_2:=zzx HB.out hx218_2;replace hx218_3:=zzx HB.out hx218_3;replace hx218_4:=zzx HB.out hx218_4;replace hx218_5:=zzx HB.out hx218_5;have HR218_3:=zzm hi218_3;have HC218_3:=zzm hl218_3;clear hi218_3 hl218_3;have HR218_5:=zzm hi218_5;have HC218_5:=zzm hl218_5;clear hi218_5 hl218_5;replace p218:=eq_true p218;replace q218:=eq_true q218;have p220 : 0≤((ji7):Int):=zzt;have q220:(ji7) < (l0.length:Int):=zzt;obtain ⟨ad220,A220_3,c220_3,A220_5,c220_5,e220,hx220_0,hx220_1,hx220_2,hx220_3,hx220_4,hx220_5,hl220_3,hi220_3,hl220_5,hi220_5⟩:=Qy HR0.out (ji7) p220 q220;have hw220_5:=hx220_5;have hw220_4:=hx220_4;have hw220_3:=hx220_3;have hw220_2:=hx220_2;have hw220_1:=hx220_1;have hw220_0:=hx220_0;obtain rfl:ad218=ad220:=(by injection e220);replace hx220_0:=zzx HB.out hx220_0;replace hx220_1:=zzx HB.out hx220_1;replace hx220_2:=zzx HB.out hx220_2;replace hx220_3:=zzx HB.out hx220_3;replace hx220_4:=zzx HB.out hx220_4;replace hx220_5:=zzx HB.out hx220_5;have HR220_3:=zzm hi220_3;have HC220_3:=zzm hl220_3;clear hi220_3 hl220_3;have HR220_5:=zzm hi220_5;have HC220_5:=zzm hl220_5;clear hi220_5 hl220_5;replace p220:=eq_true p220;replace q220:=eq_true q220;have p221 : 0≤(x3_1:Int):=zzt;have q221:x3_1 < (l0.length:Int):=zzt;obtain ⟨ad221,A221_3,c221_3,A221_5,c221_5,e221,hx221_0,hx221_1,hx221_2,hx221_3,hx221_4,hx221_5,hl221_3,hi221_3,hl221_5,hi221_5⟩:=Qy HR0.out x3_1 p221 q221;have hw221_5:=hx221_5;have hw221_4:=hx221_4;have hw221_3:=hx221_3;have hw221_2:=hx221_2;have hw221_1:=hx221_1;have hw221_0:=hx221_0;obtain rfl:ad218=ad221:=(by injection e221);replace hx221_0:=zzx HB.out hx221_0;replace hx221_1:=zzx HB.out hx221_1;replace hx221_2:=zzx HB.out hx221_2;replace hx221_3:=zzx HB.out hx221_3;replace hx221_4:=zzx HB.out hx221_4;replace hx221_5:=zzx HB.out hx221_5;have HR221_3:=zzm hi221_3;have HC221_3:=zzm hl221_3;clear hi221_3 hl221_3;have HR221_5:=zzm hi221_5;have HC221_5:=zzm hl221_5;clear hi221_5 hl221_5;replace p221:=eq_true p221;replace q221:=eq_true q221;refine start_ (n:=24) (S:=fun w'=>w'.cell? (ad218.add ((x3_1).toNat * 6))=some (.int .i64 ((Qb l0 x3_1).f0))∧w'.cell? ⟨(ad218.add ((x3_1).toNat * 6)).block,(ad218.add ((x3_1).toNat * 6)).off+1,none⟩=some (.int .i64 ((Qb l0 x3_1).f1))∧w'.cell? ⟨(ad218.add ((x3_1).toNat * 6)).block,(ad218.add ((x3_1).toNat * 6)).off+2,none⟩=some (.bool ((Qb l0 x3_1).f2))∧w'.cell? ⟨(ad218.add ((x3_1).toNat * 6)).block,(ad218.add ((x3_1).toNat * 6)).off+3,none⟩=some (.slice A218_3 ((Qb l0 x3_1).f3).length c218_3)∧w'.cell? ⟨(ad218.add ((x3_1).toNat * 6)).block,(ad218.add ((x3_1).toNat * 6)).off+4,none⟩=some (.bool ((Qb l0 x3_1).f4))∧w'.cell? ⟨(ad218.add ((x3_1).toNat * 6)).block,(ad218.add ((x3_1).toNat * 6)).off+5,none⟩=some (.slice A218_5 ((Qb l0 x3_1).f5).length c218_5)∧w'.cell? (ad218.add (((ji7)).toNat * 6))=some (.int .i64 ((Qb l0 (ji7)).f0))∧w'.cell? ⟨(ad218.add (((ji7)).toNat * 6)).block,(ad218.add (((ji7)).toNat * 6)).off+1,none⟩=some (.int .i64 ((Qb l0 (ji7)).f1))∧w'.cell? ⟨(ad218.add (((ji7)).toNat * 6)).block,(ad218.add (((ji7)).toNat * 6)).off+2,none⟩=some (.bool ((Qb l0 (ji7)).f2))∧w'.cell? ⟨(ad218.add (((ji7)).toNat * 6)).block,(ad218.add (((ji7)).toNat * 6)).off+3,none⟩=some (.slice A220_3 ((Qb l0 (ji7)).f3).length c220_3)∧w'.cell? ⟨(ad218.add (((ji7)).toNat * 6)).block,(ad218.add (((ji7)).toNat * 6)).off+4,none⟩=some (.bool ((Qb l0 (ji7)).f4))∧w'.cell? ⟨(ad218.add (((ji7)).toNat * 6)).block,(ad218.add (((ji7)).toNat * 6)).off+5,none⟩=some (.slice A220_5 ((Qb l0 (ji7)).f5).length c220_5)∧w'.cell? (ad218.add ((x3_1).toNat * 6))=some (.int .i64 ((Qb l0 x3_1).f0))∧w'.cell? ⟨(ad218.add ((x3_1).toNat * 6)).block,(ad218.add ((x3_1).toNat * 6)).off+1,none⟩=some (.int .i64 ((Qb l0 x3_1).f1))∧w'.cell? ⟨(ad218.add ((x3_1).toNat * 6)).block,(ad218.add ((x3_1).toNat * 6)).off+2,none⟩=some (.bool ((Qb l0 x3_1).f2))∧w'.cell? ⟨(ad218.add ((x3_1).toNat * 6)).block,(ad218.add ((x3_1).toNat * 6)).off+3,none⟩=some (.slice A221_3 ((Qb l0 x3_1).f3).length c221_3)∧w'.cell? ⟨(ad218.add ((x3_1).toNat * 6)).block,(ad218.add ((x3_1).toNat * 6)).off+4,none⟩=some (.bool ((Qb l0 x3_1).f4))∧w'.cell? ⟨(ad218.add ((x3_1).toNat * 6)).block,(ad218.add ((x3_1).toNat * 6)).off+5,none⟩=some (.slice A221_5 ((Qb l0 x3_1).f5).length c221_5)) (ds:=[]) (zzB 24 0) (by kernel_rfl) rfl rfl ⟨(zzx HB.out hw218_0),(zzx HB.out hw218_1),(zzx HB.out hw218_2),(zzx HB.out hw218_3),(zzx HB.out hw218_4),(zzx HB.out hw218_5),(zzx HB.out hw220_0),(zzx HB.out hw220_1),(zzx HB.out hw220_2),(zzx HB.out hw220_3),(zzx HB.out hw220_4),(zzx HB.out hw220_5),(zzx HB.out hw221_0),(zzx HB.out hw221_1),(zzx HB.out hw221_2),(zzx HB.out hw221_3),(zzx HB.out hw221_4),(zzx HB.out hw221_5)⟩ (fun hHeld=>?_);refine with_tabW Qm.tab4 Qm.bits4 (fun HT_ HW_=>?_);generalize wr.drew=w11 at HB HR218_3 HR218_5 HR220_3 HR220_5 HR221_3 HR221_5 hx218_0 hx218_1 hx218_2 hx218_3 hx218_4 hx218_5 hx220_0 hx220_1 hx220_2 hx220_3 hx220_4 hx220_5 hx221_0 hx221_1 hx221_2 hx221_3 hx221_4 hx221_5 hHeld ⊢;refine pure_ (i:=0) (N:=some 10) (v:=?_) (a':=?_) (zzB 24 1) rfl rfl (zzA2 HT_.out) (fun _ _ _ h=>h) (Or.inl ⟨by rfl,?_⟩) ?_ ?_;rotate_left
          ·
           intro w';go_simp;with_reducible rfl
          rotate_left
          ·
           simp only [Act.put,zzq,zzr,zzs,i64_w,i32_w];rfl
          refine pure_ (i:=1) (N:=some 11) (v:=?_) (a':=?_) (zzB 24 3) rfl rfl (zzA2 HT_.out) (fun _ _ _ h=>h) (Or.inl ⟨by rfl,?_⟩) ?_ ?_;rotate_left
          ·
           intro w';go_simp;with_reducible rfl
          rotate_left
          ·
           simp only [Act.put,zzq,zzr,zzs,i64_w,i32_w];rfl
          refine pure_ (i:=2) (N:=some 12) (v:=?_) (a':=?_) (zzB 24 7) rfl rfl (zzA2 HT_.out) (fun _ _ _ h=>h) (Or.inl ⟨by rfl,?_⟩) ?_ ?_;rotate_left
          ·
           intro w';go_simp;with_reducible rfl
          rotate_left
          ·
           simp only [Act.put,zzq,zzr,zzs,i64_w,i32_w];rfl
          refine take_ (i:=3) (N:=some 13) (v:=?_) (a':=?_) (zzB 24 15) rfl rfl (take_ofW HT_.out HW_.out (by kernel_rfl)) (fun _ _ _ h=>h) (Or.inl ⟨by rfl,?_⟩) hHeld ?_ ?_;rotate_left
          ·
           rintro w' ⟨s0,s1,s2,s3,s4,s5,s6,s7,s8,s9,s10,s11,s12,s13,s14,s15,s16,s17⟩;go_simp;with_reducible rfl
          rotate_left
          ·
           simp only [Act.put,zzq,zzr,zzs,i64_w,i32_w];rfl
          refine one_ (i:=4) (N:=some 14) (zzB 24 31) rfl rfl (one_of HT_.out (by kernel_rfl)) (by decide) (fun K hK=>?_);refine goes_ Try.func95 (by kernel_rfl) rfl #[.agg #[.int .i64 ((Qb l0 x3_1).f0),.int .i64 ((Qb l0 x3_1).f1),.bool ((Qb l0 x3_1).f2),.slice A218_3 ((Qb l0 x3_1).f3).length c218_3,.bool ((Qb l0 x3_1).f4),.slice A218_5 ((Qb l0 x3_1).f5).length c218_5]] (by rfl) rfl rfl zzM2 ?_;with_reducible refine (Q4.calls k1 ((Qb l0 x3_1).f0) ((Qb l0 x3_1).f1) ((Qb l0 x3_1).f2) _ _ ((Qb l0 x3_1).f3) ((Qb l0 x3_1).f4) _ _ ((Qb l0 x3_1).f5) true _ ?side1 ?side2 ?side3 ?side4 A4.out).mono ?_
          (case side1=>repeat (first|exact (Kd.C_below HR218_3.out HB.out)|(with_reducible refine Kd.C_alloc ?_ _)|(with_reducible refine Kd.C_drewN ?_ _)|(with_reducible refine Kd.C_drew ?_)))
          (case side2=>exact HC218_3.out)
          (case side3=>repeat (first|exact (Kd.C_below HR218_5.out HB.out)|(with_reducible refine Kd.C_alloc ?_ _)|(with_reducible refine Kd.C_drewN ?_ _)|(with_reducible refine Kd.C_drew ?_)))
          (case side4=>exact HC218_5.out);rintro e w12 ⟨rfl,hb⟩;refine ⟨_,rfl,?_⟩;have n0_:=zzm (zzp zzh1 hb);clear HB;have HB:=n0_;clear n0_
          (try clear hb)
          (try clear hb2)
          (try clear hk)
          (try clear hi);refine hK.out _ _ ⟨(zzx HB.out hw218_0),(zzx HB.out hw218_1),(zzx HB.out hw218_2),(zzx HB.out hw218_3),(zzx HB.out hw218_4),(zzx HB.out hw218_5),(zzx HB.out hw220_0),(zzx HB.out hw220_1),(zzx HB.out hw220_2),(zzx HB.out hw220_3),(zzx HB.out hw220_4),(zzx HB.out hw220_5),(zzx HB.out hw221_0),(zzx HB.out hw221_1),(zzx HB.out hw221_2),(zzx HB.out hw221_3),(zzx HB.out hw221_4),(zzx HB.out hw221_5)⟩ (fun hHeld=>?_);clear hK K;refine norm_ (a':=?_) ?_ ?_;rotate_left
          ·
           show Act.put _ (some 14) _ = _;simp only [Act.put,zzq,zzr,zzs,i64_w,i32_w];rfl
          refine pure_ (i:=5) (N:=some 15) (v:=?_) (a':=?_) (zzB 24 63) rfl rfl (zzA2 HT_.out) (fun _ _ _ h=>h) (Or.inl ⟨by rfl,?_⟩) ?_ ?_;rotate_left
          ·
           intro w';go_simp;with_reducible rfl
          rotate_left
          ·
           simp only [Act.put,zzq,zzr,zzs,i64_w,i32_w];rfl
          refine pure_ (i:=6) (N:=some 16) (v:=?_) (a':=?_) (zzB 24 127) rfl rfl (zzA2 HT_.out) (fun _ _ _ h=>h) (Or.inl ⟨by rfl,?_⟩) ?_ ?_;rotate_left
          ·
           intro w';go_simp;with_reducible rfl
          rotate_left
          ·
           simp only [Act.put,zzq,zzr,zzs,i64_w,i32_w];rfl
          refine pure_ (i:=7) (N:=some 17) (v:=?_) (a':=?_) (zzB 24 255) rfl rfl (zzA2 HT_.out) (fun _ _ _ h=>h) (Or.inl ⟨by rfl,?_⟩) ?_ ?_;rotate_left
          ·
           intro w';go_simp;with_reducible rfl
          rotate_left
          ·
           simp only [Act.put,zzq,zzr,zzs,i64_w,i32_w];rfl
          refine pure_ (i:=8) (N:=some 18) (v:=?_) (a':=?_) (zzB 24 511) rfl rfl (zzA2 HT_.out) (fun _ _ _ h=>h) (Or.inl ⟨by rfl,?_⟩) ?_ ?_;rotate_left
          ·
           intro w';go_simp;with_reducible rfl
          rotate_left
          ·
           simp only [Act.put,zzq,zzr,zzs,i64_w,i32_w];rfl
          refine pure_ (i:=9) (N:=some 19) (v:=?_) (a':=?_) (zzB 24 1023) rfl rfl (zzA2 HT_.out) (fun _ _ _ h=>h) (Or.inl ⟨by rfl,?_⟩) ?_ ?_;rotate_left
          ·
           intro w';go_simp;with_reducible rfl
          rotate_left
          ·
           simp only [Act.put,zzq,zzr,zzs,i64_w,i32_w];rfl
          refine pure_ (i:=10) (N:=some 20) (v:=?_) (a':=?_) (zzB 24 2047) rfl rfl (zzA2 HT_.out) (fun _ _ _ h=>h) (Or.inl ⟨by rfl,?_⟩) ?_ ?_;rotate_left
          ·
           intro w';go_simp;with_reducible rfl
          rotate_left
          ·
           simp only [Act.put,zzq,zzr,zzs,i64_w,i32_w];rfl
          refine pure_ (i:=11) (N:=some 21) (v:=?_) (a':=?_) (zzB 24 4095) rfl rfl (zzA2 HT_.out) (fun _ _ _ h=>h) (Or.inl ⟨by rfl,?_⟩) ?_ ?_;rotate_left
          ·
           intro w';go_simp;with_reducible rfl
          rotate_left
          ·
           simp only [Act.put,zzq,zzr,zzs,i64_w,i32_w];rfl
          refine pure_ (i:=12) (N:=some 22) (v:=?_) (a':=?_) (zzB 24 8191) rfl rfl (zzA2 HT_.out) (fun _ _ _ h=>h) (Or.inl ⟨by rfl,?_⟩) ?_ ?_;rotate_left
          ·
           intro w';go_simp;with_reducible rfl
          rotate_left
          ·
           simp only [Act.put,zzq,zzr,zzs,i64_w,i32_w];rfl
          refine pure_ (i:=13) (N:=some 23) (v:=?_) (a':=?_) (zzB 24 16383) rfl rfl (zzA2 HT_.out) (fun _ _ _ h=>h) (Or.inl ⟨by rfl,?_⟩) ?_ ?_;rotate_left
          ·
           intro w';go_simp;with_reducible rfl
          rotate_left
          ·
           simp only [Act.put,zzq,zzr,zzs,i64_w,i32_w];rfl
          refine pure_ (i:=14) (N:=some 24) (v:=?_) (a':=?_) (zzB 24 32767) rfl rfl (zzA2 HT_.out) (fun _ _ _ h=>h) (Or.inl ⟨by rfl,?_⟩) ?_ ?_;rotate_left
          ·
           intro w';go_simp;with_reducible rfl
          rotate_left
          ·
           simp only [Act.put,zzq,zzr,zzs,i64_w,i32_w];rfl
          refine pure_ (i:=16) (N:=some 26) (v:=?_) (a':=?_) (zzB 24 98303) rfl rfl (zzA2 HT_.out) (fun _ _ _ h=>h) (Or.inl ⟨by rfl,?_⟩) ?_ ?_;rotate_left
          ·
           intro w';go_simp;with_reducible rfl
          rotate_left
          ·
           simp only [Act.put,zzq,zzr,zzs,i64_w,i32_w];rfl
          refine pure_ (i:=17) (N:=some 27) (v:=?_) (a':=?_) (zzB 24 229375) rfl rfl (zzA2 HT_.out) (fun _ _ _ h=>h) (Or.inl ⟨by rfl,?_⟩) ?_ ?_;rotate_left
          ·
           intro w';go_simp;with_reducible rfl
          rotate_left
          ·
           simp only [Act.put,zzq,zzr,zzs,i64_w,i32_w];rfl
          refine pure_ (i:=18) (N:=some 28) (v:=?_) (a':=?_) (zzB 24 491519) rfl rfl (zzA2 HT_.out) (fun _ _ _ h=>h) (Or.inl ⟨by rfl,?_⟩) ?_ ?_;rotate_left
          ·
           intro w';go_simp;with_reducible rfl
          rotate_left
          ·
           simp only [Act.put,zzq,zzr,zzs,i64_w,i32_w];rfl
          refine pure_ (i:=19) (N:=some 29) (v:=?_) (a':=?_) (zzB 24 1015807) rfl rfl (zzA2 HT_.out) (fun _ _ _ h=>h) (Or.inl ⟨by rfl,?_⟩) ?_ ?_;rotate_left
          ·
           intro w';go_simp;with_reducible rfl
          rotate_left
          ·
           simp only [Act.put,zzq,zzr,zzs,i64_w,i32_w];rfl
          refine take_ (i:=15) (N:=some 25) (v:=?_) (a':=?_) (zzB 24 1048575) rfl rfl (take_ofW HT_.out HW_.out (by kernel_rfl)) (fun _ _ _ h=>h) (Or.inl ⟨by rfl,?_⟩) hHeld ?_ ?_;rotate_left
          ·
           rintro w' ⟨s0,s1,s2,s3,s4,s5,s6,s7,s8,s9,s10,s11,s12,s13,s14,s15,s16,s17⟩;go_simp;with_reducible rfl
          rotate_left
          ·
           simp only [Act.put,zzq,zzr,zzs,i64_w,i32_w];rfl
          refine take_ (i:=20) (N:=some 30) (v:=?_) (a':=?_) (zzB 24 2097151) rfl rfl (take_ofW HT_.out HW_.out (by kernel_rfl)) (fun _ _ _ h=>h) (Or.inl ⟨by rfl,?_⟩) hHeld ?_ ?_;rotate_left
          ·
           rintro w' ⟨s0,s1,s2,s3,s4,s5,s6,s7,s8,s9,s10,s11,s12,s13,s14,s15,s16,s17⟩;go_simp;with_reducible rfl
          rotate_left
          ·
           simp only [Act.put,zzq,zzr,zzs,i64_w,i32_w];rfl
          refine pure_ (i:=21) (N:=some 31) (v:=?_) (a':=?_) (zzB 24 4194303) rfl rfl (zzA2 HT_.out) (fun _ _ _ h=>h) (Or.inl ⟨by rfl,?_⟩) ?_ ?_;rotate_left
          ·
           intro w';go_simp;with_reducible rfl
          rotate_left
          ·
           simp only [Act.put,zzq,zzr,zzs,i64_w,i32_w];rfl
          refine pure_ (i:=22) (N:=some 32) (v:=?_) (a':=?_) (zzB 24 8388607) rfl rfl (zzA2 HT_.out) (fun _ _ _ h=>h) (Or.inl ⟨by rfl,?_⟩) ?_ ?_;rotate_left
          ·
           intro w';go_simp;with_reducible rfl
          rotate_left
          ·
           simp only [Act.put,zzq,zzr,zzs,i64_w,i32_w];rfl
          refine pure_ (i:=23) (N:=some 33) (v:=?_) (a':=?_) (zzB 24 16777215) rfl rfl (zzA2 HT_.out) (fun _ _ _ h=>h) (Or.inl ⟨by rfl,?_⟩) ?_ ?_;rotate_left
          ·
           intro w';go_simp;with_reducible rfl
          rotate_left
          ·
           simp only [Act.put,zzq,zzr,zzs,i64_w,i32_w];rfl
          refine done_ (done_of HT_.out (by kernel_rfl)) ?_;try go_wp2
          go_ret;exact ⟨by first|rfl|(simp [errW_none,errW_some] <;> rfl)|(simp only [← hji7];first|rfl|(simp [errW_none,errW_some] <;> rfl))|(simp [*,errW_none,errW_some] <;> rfl),zzh1⟩
         ·
          rw [if_neg c10] at H;have c10b0:decide (((Qb l0 x3_1).f0)≤((Qb l0 (ji7)).f0))=false:=decide_eq_false c10;clear c10;have H':=zzm H;clear H;try go_wp2
          have n0_:=zzm (zzc HB.out);clear HB;have HB:=n0_;clear n0_;have p218 : 0≤(x3_1:Int):=zzt;have q218:x3_1 < (l0.length:Int):=zzt;obtain ⟨ad218,A218_3,c218_3,A218_5,c218_5,e218,hx218_0,hx218_1,hx218_2,hx218_3,hx218_4,hx218_5,hl218_3,hi218_3,hl218_5,hi218_5⟩:=Qy HR0.out x3_1 p218 q218;have hw218_5:=hx218_5;have hw218_4:=hx218_4;have hw218_3:=hx218_3;have hw218_2:=hx218_2;have hw218_1:=hx218_1;have hw218_0:=hx218_0;cases e218;replace hx218_0:=zzx HB.out hx218_0;replace hx218_1:=zzx HB.out hx218_1;replace hx218_2:=zzx HB.out hx218_2;replace hx218_3:=zzx HB.out hx218_3;replace hx218_4:=zzx HB.out hx218_4;replace hx218_5:=zzx HB.out hx218_5;have HR218_3:=zzm hi218_3;have HC218_3:=zzm hl218_3;clear hi218_3 hl218_3;have HR218_5:=zzm hi218_5;have HC218_5:=zzm hl218_5;clear hi218_5 hl218_5;replace p218:=eq_true p218;replace q218:=eq_true q218;have p220 : 0≤((ji7):Int):=zzt;have q220:(ji7) < (l0.length:Int):=zzt;obtain ⟨ad220,A220_3,c220_3,A220_5,c220_5,e220,hx220_0,hx220_1,hx220_2,hx220_3,hx220_4,hx220_5,hl220_3,hi220_3,hl220_5,hi220_5⟩:=Qy HR0.out (ji7) p220 q220;have hw220_5:=hx220_5;have hw220_4:=hx220_4;have hw220_3:=hx220_3;have hw220_2:=hx220_2;have hw220_1:=hx220_1;have hw220_0:=hx220_0;obtain rfl:ad218=ad220:=(by injection e220);replace hx220_0:=zzx HB.out hx220_0;replace hx220_1:=zzx HB.out hx220_1;replace hx220_2:=zzx HB.out hx220_2;replace hx220_3:=zzx HB.out hx220_3;replace hx220_4:=zzx HB.out hx220_4;replace hx220_5:=zzx HB.out hx220_5;have HR220_3:=zzm hi220_3;have HC220_3:=zzm hl220_3;clear hi220_3 hl220_3;have HR220_5:=zzm hi220_5;have HC220_5:=zzm hl220_5;clear hi220_5 hl220_5;replace p220:=eq_true p220;replace q220:=eq_true q220;have p221 : 0≤(x3_1:Int):=zzt;have q221:x3_1 < (l0.length:Int):=zzt;obtain ⟨ad221,A221_3,c221_3,A221_5,c221_5,e221,hx221_0,hx221_1,hx221_2,hx221_3,hx221_4,hx221_5,hl221_3,hi221_3,hl221_5,hi221_5⟩:=Qy HR0.out x3_1 p221 q221;have hw221_5:=hx221_5;have hw221_4:=hx221_4;have hw221_3:=hx221_3;have hw221_2:=hx221_2;have hw221_1:=hx221_1;have hw221_0:=hx221_0;obtain rfl:ad218=ad221:=(by injection e221);replace hx221_0:=zzx HB.out hx221_0;replace hx221_1:=zzx HB.out hx221_1;replace hx221_2:=zzx HB.out hx221_2;replace hx221_3:=zzx HB.out hx221_3;replace hx221_4:=zzx HB.out hx221_4;replace hx221_5:=zzx HB.out hx221_5;have HR221_3:=zzm hi221_3;have HC221_3:=zzm hl221_3;clear hi221_3 hl221_3;have HR221_5:=zzm hi221_5;have HC221_5:=zzm hl221_5;clear hi221_5 hl221_5;replace p221:=eq_true p221;replace q221:=eq_true q221;refine start_ (n:=24) (S:=fun w'=>w'.cell? (ad218.add ((x3_1).toNat * 6))=some (.int .i64 ((Qb l0 x3_1).f0))∧w'.cell? ⟨(ad218.add ((x3_1).toNat * 6)).block,(ad218.add ((x3_1).toNat * 6)).off+1,none⟩=some (.int .i64 ((Qb l0 x3_1).f1))∧w'.cell? ⟨(ad218.add ((x3_1).toNat * 6)).block,(ad218.add ((x3_1).toNat * 6)).off+2,none⟩=some (.bool ((Qb l0 x3_1).f2))∧w'.cell? ⟨(ad218.add ((x3_1).toNat * 6)).block,(ad218.add ((x3_1).toNat * 6)).off+3,none⟩=some (.slice A218_3 ((Qb l0 x3_1).f3).length c218_3)∧w'.cell? ⟨(ad218.add ((x3_1).toNat * 6)).block,(ad218.add ((x3_1).toNat * 6)).off+4,none⟩=some (.bool ((Qb l0 x3_1).f4))∧w'.cell? ⟨(ad218.add ((x3_1).toNat * 6)).block,(ad218.add ((x3_1).toNat * 6)).off+5,none⟩=some (.slice A218_5 ((Qb l0 x3_1).f5).length c218_5)∧w'.cell? (ad218.add (((ji7)).toNat * 6))=some (.int .i64 ((Qb l0 (ji7)).f0))∧w'.cell? ⟨(ad218.add (((ji7)).toNat * 6)).block,(ad218.add (((ji7)).toNat * 6)).off+1,none⟩=some (.int .i64 ((Qb l0 (ji7)).f1))∧w'.cell? ⟨(ad218.add (((ji7)).toNat * 6)).block,(ad218.add (((ji7)).toNat * 6)).off+2,none⟩=some (.bool ((Qb l0 (ji7)).f2))∧w'.cell? ⟨(ad218.add (((ji7)).toNat * 6)).block,(ad218.add (((ji7)).toNat * 6)).off+3,none⟩=some (.slice A220_3 ((Qb l0 (ji7)).f3).length c220_3)∧w'.cell? ⟨(ad218.add (((ji7)).toNat * 6)).block,(ad218.add (((ji7)).toNat * 6)).off+4,none⟩=some (.bool ((Qb l0 (ji7)).f4))∧w'.cell? ⟨(ad218.add (((ji7)).toNat * 6)).block,(ad218.add (((ji7)).toNat * 6)).off+5,none⟩=some (.slice A220_5 ((Qb l0 (ji7)).f5).length c220_5)∧w'.cell? (ad218.add ((x3_1).toNat * 6))=some (.int .i64 ((Qb l0 x3_1).f0))∧w'.cell? ⟨(ad218.add ((x3_1).toNat * 6)).block,(ad218.add ((x3_1).toNat * 6)).off+1,none⟩=some (.int .i64 ((Qb l0 x3_1).f1))∧w'.cell? ⟨(ad218.add ((x3_1).toNat * 6)).block,(ad218.add ((x3_1).toNat * 6)).off+2,none⟩=some (.bool ((Qb l0 x3_1).f2))∧w'.cell? ⟨(ad218.add ((x3_1).toNat * 6)).block,(ad218.add ((x3_1).toNat * 6)).off+3,none⟩=some (.slice A221_3 ((Qb l0 x3_1).f3).length c221_3)∧w'.cell? ⟨(ad218.add ((x3_1).toNat * 6)).block,(ad218.add ((x3_1).toNat * 6)).off+4,none⟩=some (.bool ((Qb l0 x3_1).f4))∧w'.cell? ⟨(ad218.add ((x3_1).toNat * 6)).block,(ad218.add ((x3_1).toNat * 6)).off+5,none⟩=some (.slice A221_5 ((Qb l0 x3_1).f5).length c221_5)) (ds:=[]) (zzB 24 0) (by kernel_rfl) rfl rfl ⟨(zzx HB.out hw218_0),(zzx HB.out hw218_1),(zzx HB.out hw218_2),(zzx HB.out hw218_3),(zzx HB.out hw218_4),(zzx HB.out hw218_5),(zzx HB.out hw220_0),(zzx HB.out hw220_1),(zzx HB.out hw220_2),(zzx HB.out hw220_3),(zzx HB.out hw220_4),(zzx HB.out hw220_5),(zzx HB.out hw221_0),(zzx HB.out hw221_1),(zzx HB.out hw221_2),(zzx HB.out hw221_3),(zzx HB.out hw221_4),(zzx HB.out hw221_5)⟩ (fun hHeld=>?_);refine with_tabW Qm.tab4 Qm.bits4 (fun HT_ HW_=>?_);generalize wr.drew=w13 at HB HR218_3 HR218_5 HR220_3 HR220_5 HR221_3 HR221_5 hx218_0 hx218_1 hx218_2 hx218_3 hx218_4 hx218_5 hx220_0 hx220_1 hx220_2 hx220_3 hx220_4 hx220_5 hx221_0 hx221_1 hx221_2 hx221_3 hx221_4 hx221_5 hHeld ⊢;refine pure_ (i:=0) (N:=some 10) (v:=?_) (a':=?_) (zzB 24 1) rfl rfl (zzA2 HT_.out) (fun _ _ _ h=>h) (Or.inl ⟨by rfl,?_⟩) ?_ ?_;rotate_left
          ·
           intro w';go_simp;with_reducible rfl
          rotate_left
          ·
           simp only [Act.put,zzq,zzr,zzs,i64_w,i32_w];rfl
          refine pure_ (i:=1) (N:=some 11) (v:=?_) (a':=?_) (zzB 24 3) rfl rfl (zzA2 HT_.out) (fun _ _ _ h=>h) (Or.inl ⟨by rfl,?_⟩) ?_ ?_;rotate_left
          ·
           intro w';go_simp;with_reducible rfl
          rotate_left
          ·
           simp only [Act.put,zzq,zzr,zzs,i64_w,i32_w];rfl
          refine pure_ (i:=2) (N:=some 12) (v:=?_) (a':=?_) (zzB 24 7) rfl rfl (zzA2 HT_.out) (fun _ _ _ h=>h) (Or.inl ⟨by rfl,?_⟩) ?_ ?_;rotate_left
          ·
           intro w';go_simp;with_reducible rfl
          rotate_left
          ·
           simp only [Act.put,zzq,zzr,zzs,i64_w,i32_w];rfl
          refine take_ (i:=3) (N:=some 13) (v:=?_) (a':=?_) (zzB 24 15) rfl rfl (take_ofW HT_.out HW_.out (by kernel_rfl)) (fun _ _ _ h=>h) (Or.inl ⟨by rfl,?_⟩) hHeld ?_ ?_;rotate_left
          ·
           rintro w' ⟨s0,s1,s2,s3,s4,s5,s6,s7,s8,s9,s10,s11,s12,s13,s14,s15,s16,s17⟩;go_simp;with_reducible rfl
          rotate_left
          ·
           simp only [Act.put,zzq,zzr,zzs,i64_w,i32_w];rfl
          refine one_ (i:=4) (N:=some 14) (zzB 24 31) rfl rfl (one_of HT_.out (by kernel_rfl)) (by decide) (fun K hK=>?_);refine goes_ Try.func95 (by kernel_rfl) rfl #[.agg #[.int .i64 ((Qb l0 x3_1).f0),.int .i64 ((Qb l0 x3_1).f1),.bool ((Qb l0 x3_1).f2),.slice A218_3 ((Qb l0 x3_1).f3).length c218_3,.bool ((Qb l0 x3_1).f4),.slice A218_5 ((Qb l0 x3_1).f5).length c218_5]] (by rfl) rfl rfl zzM2 ?_;with_reducible refine (Q4.calls k1 ((Qb l0 x3_1).f0) ((Qb l0 x3_1).f1) ((Qb l0 x3_1).f2) _ _ ((Qb l0 x3_1).f3) ((Qb l0 x3_1).f4) _ _ ((Qb l0 x3_1).f5) true _ ?side1 ?side2 ?side3 ?side4 A4.out).mono ?_
          (case side1=>repeat (first|exact (Kd.C_below HR218_3.out HB.out)|(with_reducible refine Kd.C_alloc ?_ _)|(with_reducible refine Kd.C_drewN ?_ _)|(with_reducible refine Kd.C_drew ?_)))
          (case side2=>exact HC218_3.out)
          (case side3=>repeat (first|exact (Kd.C_below HR218_5.out HB.out)|(with_reducible refine Kd.C_alloc ?_ _)|(with_reducible refine Kd.C_drewN ?_ _)|(with_reducible refine Kd.C_drew ?_)))
          (case side4=>exact HC218_5.out);rintro e w14 ⟨rfl,hb⟩;refine ⟨_,rfl,?_⟩;have n0_:=zzm (zzp zzh1 hb);clear HB;have HB:=n0_;clear n0_
          (try clear hb)
          (try clear hb2)
          (try clear hk)
          (try clear hi);refine hK.out _ _ ⟨(zzx HB.out hw218_0),(zzx HB.out hw218_1),(zzx HB.out hw218_2),(zzx HB.out hw218_3),(zzx HB.out hw218_4),(zzx HB.out hw218_5),(zzx HB.out hw220_0),(zzx HB.out hw220_1),(zzx HB.out hw220_2),(zzx HB.out hw220_3),(zzx HB.out hw220_4),(zzx HB.out hw220_5),(zzx HB.out hw221_0),(zzx HB.out hw221_1),(zzx HB.out hw221_2),(zzx HB.out hw221_3),(zzx HB.out hw221_4),(zzx HB.out hw221_5)⟩ (fun hHeld=>?_);clear hK K;refine norm_ (a':=?_) ?_ ?_;rotate_left
          ·
           show Act.put _ (some 14) _ = _;simp only [Act.put,zzq,zzr,zzs,i64_w,i32_w];rfl
          refine pure_ (i:=5) (N:=some 15) (v:=?_) (a':=?_) (zzB 24 63) rfl rfl (zzA2 HT_.out) (fun _ _ _ h=>h) (Or.inl ⟨by rfl,?_⟩) ?_ ?_;rotate_left
          ·
           intro w';go_simp;with_reducible rfl
          rotate_left
          ·
           simp only [Act.put,zzq,zzr,zzs,i64_w,i32_w];rfl
          refine pure_ (i:=6) (N:=some 16) (v:=?_) (a':=?_) (zzB 24 127) rfl rfl (zzA2 HT_.out) (fun _ _ _ h=>h) (Or.inl ⟨by rfl,?_⟩) ?_ ?_;rotate_left
          ·
           intro w';go_simp;with_reducible rfl
          rotate_left
          ·
           simp only [Act.put,zzq,zzr,zzs,i64_w,i32_w];rfl
          refine pure_ (i:=7) (N:=some 17) (v:=?_) (a':=?_) (zzB 24 255) rfl rfl (zzA2 HT_.out) (fun _ _ _ h=>h) (Or.inl ⟨by rfl,?_⟩) ?_ ?_;rotate_left
          ·
           intro w';go_simp;with_reducible rfl
          rotate_left
          ·
           simp only [Act.put,zzq,zzr,zzs,i64_w,i32_w];rfl
          refine pure_ (i:=8) (N:=some 18) (v:=?_) (a':=?_) (zzB 24 511) rfl rfl (zzA2 HT_.out) (fun _ _ _ h=>h) (Or.inl ⟨by rfl,?_⟩) ?_ ?_;rotate_left
          ·
           intro w';go_simp;with_reducible rfl
          rotate_left
          ·
           simp only [Act.put,zzq,zzr,zzs,i64_w,i32_w];rfl
          refine pure_ (i:=9) (N:=some 19) (v:=?_) (a':=?_) (zzB 24 1023) rfl rfl (zzA2 HT_.out) (fun _ _ _ h=>h) (Or.inl ⟨by rfl,?_⟩) ?_ ?_;rotate_left
          ·
           intro w';go_simp;with_reducible rfl
          rotate_left
          ·
           simp only [Act.put,zzq,zzr,zzs,i64_w,i32_w];rfl
          refine pure_ (i:=10) (N:=some 20) (v:=?_) (a':=?_) (zzB 24 2047) rfl rfl (zzA2 HT_.out) (fun _ _ _ h=>h) (Or.inl ⟨by rfl,?_⟩) ?_ ?_;rotate_left
          ·
           intro w';go_simp;with_reducible rfl
          rotate_left
          ·
           simp only [Act.put,zzq,zzr,zzs,i64_w,i32_w];rfl
          refine pure_ (i:=11) (N:=some 21) (v:=?_) (a':=?_) (zzB 24 4095) rfl rfl (zzA2 HT_.out) (fun _ _ _ h=>h) (Or.inl ⟨by rfl,?_⟩) ?_ ?_;rotate_left
          ·
           intro w';go_simp;with_reducible rfl
          rotate_left
          ·
           simp only [Act.put,zzq,zzr,zzs,i64_w,i32_w];rfl
          refine pure_ (i:=12) (N:=some 22) (v:=?_) (a':=?_) (zzB 24 8191) rfl rfl (zzA2 HT_.out) (fun _ _ _ h=>h) (Or.inl ⟨by rfl,?_⟩) ?_ ?_;rotate_left
          ·
           intro w';go_simp;with_reducible rfl
          rotate_left
          ·
           simp only [Act.put,zzq,zzr,zzs,i64_w,i32_w];rfl
          refine pure_ (i:=13) (N:=some 23) (v:=?_) (a':=?_) (zzB 24 16383) rfl rfl (zzA2 HT_.out) (fun _ _ _ h=>h) (Or.inl ⟨by rfl,?_⟩) ?_ ?_;rotate_left
          ·
           intro w';go_simp;with_reducible rfl
          rotate_left
          ·
           simp only [Act.put,zzq,zzr,zzs,i64_w,i32_w];rfl
          refine pure_ (i:=14) (N:=some 24) (v:=?_) (a':=?_) (zzB 24 32767) rfl rfl (zzA2 HT_.out) (fun _ _ _ h=>h) (Or.inl ⟨by rfl,?_⟩) ?_ ?_;rotate_left
          ·
           intro w';go_simp;with_reducible rfl
          rotate_left
          ·
           simp only [Act.put,zzq,zzr,zzs,i64_w,i32_w];rfl
          refine pure_ (i:=16) (N:=some 26) (v:=?_) (a':=?_) (zzB 24 98303) rfl rfl (zzA2 HT_.out) (fun _ _ _ h=>h) (Or.inl ⟨by rfl,?_⟩) ?_ ?_;rotate_left
          ·
           intro w';go_simp;with_reducible rfl
          rotate_left
          ·
           simp only [Act.put,zzq,zzr,zzs,i64_w,i32_w];rfl
          refine pure_ (i:=17) (N:=some 27) (v:=?_) (a':=?_) (zzB 24 229375) rfl rfl (zzA2 HT_.out) (fun _ _ _ h=>h) (Or.inl ⟨by rfl,?_⟩) ?_ ?_;rotate_left
          ·
           intro w';go_simp;with_reducible rfl
          rotate_left
          ·
           simp only [Act.put,zzq,zzr,zzs,i64_w,i32_w];rfl
          refine pure_ (i:=18) (N:=some 28) (v:=?_) (a':=?_) (zzB 24 491519) rfl rfl (zzA2 HT_.out) (fun _ _ _ h=>h) (Or.inl ⟨by rfl,?_⟩) ?_ ?_;rotate_left
          ·
           intro w';go_simp;with_reducible rfl
          rotate_left
          ·
           simp only [Act.put,zzq,zzr,zzs,i64_w,i32_w];rfl
          refine pure_ (i:=19) (N:=some 29) (v:=?_) (a':=?_) (zzB 24 1015807) rfl rfl (zzA2 HT_.out) (fun _ _ _ h=>h) (Or.inl ⟨by rfl,?_⟩) ?_ ?_;rotate_left
          ·
           intro w';go_simp;with_reducible rfl
          rotate_left
          ·
           simp only [Act.put,zzq,zzr,zzs,i64_w,i32_w];rfl
          refine take_ (i:=15) (N:=some 25) (v:=?_) (a':=?_) (zzB 24 1048575) rfl rfl (take_ofW HT_.out HW_.out (by kernel_rfl)) (fun _ _ _ h=>h) (Or.inl ⟨by rfl,?_⟩) hHeld ?_ ?_;rotate_left
          ·
           rintro w' ⟨s0,s1,s2,s3,s4,s5,s6,s7,s8,s9,s10,s11,s12,s13,s14,s15,s16,s17⟩;go_simp;with_reducible rfl
          rotate_left
          ·
           simp only [Act.put,zzq,zzr,zzs,i64_w,i32_w];rfl
          refine take_ (i:=20) (N:=some 30) (v:=?_) (a':=?_) (zzB 24 2097151) rfl rfl (take_ofW HT_.out HW_.out (by kernel_rfl)) (fun _ _ _ h=>h) (Or.inl ⟨by rfl,?_⟩) hHeld ?_ ?_;rotate_left
          ·
           rintro w' ⟨s0,s1,s2,s3,s4,s5,s6,s7,s8,s9,s10,s11,s12,s13,s14,s15,s16,s17⟩;go_simp;with_reducible rfl
          rotate_left
          ·
           simp only [Act.put,zzq,zzr,zzs,i64_w,i32_w];rfl
          refine pure_ (i:=21) (N:=some 31) (v:=?_) (a':=?_) (zzB 24 4194303) rfl rfl (zzA2 HT_.out) (fun _ _ _ h=>h) (Or.inl ⟨by rfl,?_⟩) ?_ ?_;rotate_left
          ·
           intro w';go_simp;with_reducible rfl
          rotate_left
          ·
           simp only [Act.put,zzq,zzr,zzs,i64_w,i32_w];rfl
          refine pure_ (i:=22) (N:=some 32) (v:=?_) (a':=?_) (zzB 24 8388607) rfl rfl (zzA2 HT_.out) (fun _ _ _ h=>h) (Or.inl ⟨by rfl,?_⟩) ?_ ?_;rotate_left
          ·
           intro w';go_simp;with_reducible rfl
          rotate_left
          ·
           simp only [Act.put,zzq,zzr,zzs,i64_w,i32_w];rfl
          refine pure_ (i:=23) (N:=some 33) (v:=?_) (a':=?_) (zzB 24 16777215) rfl rfl (zzA2 HT_.out) (fun _ _ _ h=>h) (Or.inl ⟨by rfl,?_⟩) ?_ ?_;rotate_left
          ·
           intro w';go_simp;with_reducible rfl
          rotate_left
          ·
           simp only [Act.put,zzq,zzr,zzs,i64_w,i32_w];rfl
          refine done_ (done_of HT_.out (by kernel_rfl)) ?_;try go_wp2
          go_roundg k1
          case measure=>have:=HK1.out;omega
          case rel=>exact ⟨(wrap64 (x3_1+1)),(by first|rfl|(simp;done)|(simp [*];done)),H',⟨by have:=HK1.out;omega⟩,⟨zzh1⟩⟩
        ·
         rw [if_neg c9] at H;exact absurd H (by simp)
       ·
        rw [if_neg c8] at H;exact absurd H (by simp)
      ·
       rw [if_neg c6] at H;have c6b0:decide (0 < x3_1)=false:=decide_eq_false c6;clear c6;have H':=zzm H;clear H;try go_wp2
       have n0_:=zzm (zzc HB.out);clear HB;have HB:=n0_;clear n0_;have p218 : 0≤(x3_1:Int):=zzt;have q218:x3_1 < (l0.length:Int):=zzt;obtain ⟨ad218,A218_3,c218_3,A218_5,c218_5,e218,hx218_0,hx218_1,hx218_2,hx218_3,hx218_4,hx218_5,hl218_3,hi218_3,hl218_5,hi218_5⟩:=Qy HR0.out x3_1 p218 q218;have hw218_5:=hx218_5;have hw218_4:=hx218_4;have hw218_3:=hx218_3;have hw218_2:=hx218_2;have hw218_1:=hx218_1;have hw218_0:=hx218_0;cases e218;replace hx218_0:=zzx HB.out hx218_0;replace hx218_1:=zzx HB.out hx218_1;replace hx218_2:=zzx HB.out hx218_2;replace hx218_3:=zzx HB.out hx218_3;replace hx218_4:=zzx HB.out hx218_4;replace hx218_5:=zzx HB.out hx218_5;have HR218_3:=zzm hi218_3;have HC218_3:=zzm hl218_3;clear hi218_3 hl218_3;have HR218_5:=zzm hi218_5;have HC218_5:=zzm hl218_5;clear hi218_5 hl218_5;replace p218:=eq_true p218;replace q218:=eq_true q218;refine start_ (n:=24) (S:=fun w'=>w'.cell? (ad218.add ((x3_1).toNat * 6))=some (.int .i64 ((Qb l0 x3_1).f0))∧w'.cell? ⟨(ad218.add ((x3_1).toNat * 6)).block,(ad218.add ((x3_1).toNat * 6)).off+1,none⟩=some (.int .i64 ((Qb l0 x3_1).f1))∧w'.cell? ⟨(ad218.add ((x3_1).toNat * 6)).block,(ad218.add ((x3_1).toNat * 6)).off+2,none⟩=some (.bool ((Qb l0 x3_1).f2))∧w'.cell? ⟨(ad218.add ((x3_1).toNat * 6)).block,(ad218.add ((x3_1).toNat * 6)).off+3,none⟩=some (.slice A218_3 ((Qb l0 x3_1).f3).length c218_3)∧w'.cell? ⟨(ad218.add ((x3_1).toNat * 6)).block,(ad218.add ((x3_1).toNat * 6)).off+4,none⟩=some (.bool ((Qb l0 x3_1).f4))∧w'.cell? ⟨(ad218.add ((x3_1).toNat * 6)).block,(ad218.add ((x3_1).toNat * 6)).off+5,none⟩=some (.slice A218_5 ((Qb l0 x3_1).f5).length c218_5)) (ds:=[]) (zzB 24 0) (by kernel_rfl) rfl rfl ⟨(zzx HB.out hw218_0),(zzx HB.out hw218_1),(zzx HB.out hw218_2),(zzx HB.out hw218_3),(zzx HB.out hw218_4),(zzx HB.out hw218_5)⟩ (fun hHeld=>?_);refine with_tabW Qm.tab4 Qm.bits4 (fun HT_ HW_=>?_);generalize wr.drew=w15 at HB HR218_3 HR218_5 hx218_0 hx218_1 hx218_2 hx218_3 hx218_4 hx218_5 hHeld ⊢;refine pure_ (i:=0) (N:=some 10) (v:=?_) (a':=?_) (zzB 24 1) rfl rfl (zzA2 HT_.out) (fun _ _ _ h=>h) (Or.inl ⟨by rfl,?_⟩) ?_ ?_;rotate_left
       ·
        intro w';go_simp;with_reducible rfl
       rotate_left
       ·
        simp only [Act.put,zzq,zzr,zzs,i64_w,i32_w];rfl
       refine pure_ (i:=1) (N:=some 11) (v:=?_) (a':=?_) (zzB 24 3) rfl rfl (zzA2 HT_.out) (fun _ _ _ h=>h) (Or.inl ⟨by rfl,?_⟩) ?_ ?_;rotate_left
       ·
        intro w';go_simp;with_reducible rfl
       rotate_left
       ·
        simp only [Act.put,zzq,zzr,zzs,i64_w,i32_w];rfl
       refine pure_ (i:=2) (N:=some 12) (v:=?_) (a':=?_) (zzB 24 7) rfl rfl (zzA2 HT_.out) (fun _ _ _ h=>h) (Or.inl ⟨by rfl,?_⟩) ?_ ?_;rotate_left
       ·
        intro w';go_simp;with_reducible rfl
       rotate_left
       ·
        simp only [Act.put,zzq,zzr,zzs,i64_w,i32_w];rfl
       refine take_ (i:=3) (N:=some 13) (v:=?_) (a':=?_) (zzB 24 15) rfl rfl (take_ofW HT_.out HW_.out (by kernel_rfl)) (fun _ _ _ h=>h) (Or.inl ⟨by rfl,?_⟩) hHeld ?_ ?_;rotate_left
       ·
        rintro w' ⟨s0,s1,s2,s3,s4,s5⟩;go_simp;with_reducible rfl
       rotate_left
       ·
        simp only [Act.put,zzq,zzr,zzs,i64_w,i32_w];rfl
       refine one_ (i:=4) (N:=some 14) (zzB 24 31) rfl rfl (one_of HT_.out (by kernel_rfl)) (by decide) (fun K hK=>?_);refine goes_ Try.func95 (by kernel_rfl) rfl #[.agg #[.int .i64 ((Qb l0 x3_1).f0),.int .i64 ((Qb l0 x3_1).f1),.bool ((Qb l0 x3_1).f2),.slice A218_3 ((Qb l0 x3_1).f3).length c218_3,.bool ((Qb l0 x3_1).f4),.slice A218_5 ((Qb l0 x3_1).f5).length c218_5]] (by rfl) rfl rfl zzM2 ?_;with_reducible refine (Q4.calls k1 ((Qb l0 x3_1).f0) ((Qb l0 x3_1).f1) ((Qb l0 x3_1).f2) _ _ ((Qb l0 x3_1).f3) ((Qb l0 x3_1).f4) _ _ ((Qb l0 x3_1).f5) true _ ?side1 ?side2 ?side3 ?side4 A4.out).mono ?_
       (case side1=>repeat (first|exact (Kd.C_below HR218_3.out HB.out)|(with_reducible refine Kd.C_alloc ?_ _)|(with_reducible refine Kd.C_drewN ?_ _)|(with_reducible refine Kd.C_drew ?_)))
       (case side2=>exact HC218_3.out)
       (case side3=>repeat (first|exact (Kd.C_below HR218_5.out HB.out)|(with_reducible refine Kd.C_alloc ?_ _)|(with_reducible refine Kd.C_drewN ?_ _)|(with_reducible refine Kd.C_drew ?_)))
       (case side4=>exact HC218_5.out);rintro e w16 ⟨rfl,hb⟩;refine ⟨_,rfl,?_⟩;have n0_:=zzm (zzp zzh1 hb);clear HB;have HB:=n0_;clear n0_
       (try clear hb)
       (try clear hb2)
       (try clear hk)
       (try clear hi);refine hK.out _ _ ⟨(zzx HB.out hw218_0),(zzx HB.out hw218_1),(zzx HB.out hw218_2),(zzx HB.out hw218_3),(zzx HB.out hw218_4),(zzx HB.out hw218_5)⟩ (fun hHeld=>?_);clear hK K;refine norm_ (a':=?_) ?_ ?_;rotate_left
       ·
        show Act.put _ (some 14) _ = _;simp only [Act.put,zzq,zzr,zzs,i64_w,i32_w];rfl
       refine pure_ (i:=5) (N:=some 15) (v:=?_) (a':=?_) (zzB 24 63) rfl rfl (zzA2 HT_.out) (fun _ _ _ h=>h) (Or.inl ⟨by rfl,?_⟩) ?_ ?_;rotate_left
       ·
        intro w';go_simp;with_reducible rfl
       rotate_left
       ·
        simp only [Act.put,zzq,zzr,zzs,i64_w,i32_w];rfl
       refine pure_ (i:=6) (N:=some 16) (v:=?_) (a':=?_) (zzB 24 127) rfl rfl (zzA2 HT_.out) (fun _ _ _ h=>h) (Or.inl ⟨by rfl,?_⟩) ?_ ?_;rotate_left
       ·
        intro w';go_simp;with_reducible rfl
       rotate_left
       ·
        simp only [Act.put,zzq,zzr,zzs,i64_w,i32_w];rfl
       refine pure_ (i:=7) (N:=some 17) (v:=?_) (a':=?_) (zzB 24 255) rfl rfl (zzA2 HT_.out) (fun _ _ _ h=>h) (Or.inl ⟨by rfl,?_⟩) ?_ ?_;rotate_left
       ·
        intro w';go_simp;with_reducible rfl
       rotate_left
       ·
        simp only [Act.put,zzq,zzr,zzs,i64_w,i32_w];rfl
       refine pure_ (i:=8) (N:=some 18) (v:=?_) (a':=?_) (zzB 24 511) rfl rfl (zzA2 HT_.out) (fun _ _ _ h=>h) (Or.inl ⟨by rfl,?_⟩) ?_ ?_;rotate_left
       ·
        intro w';go_simp;with_reducible rfl
       rotate_left
       ·
        simp only [Act.put,zzq,zzr,zzs,i64_w,i32_w];rfl
       refine pure_ (i:=9) (N:=some 19) (v:=?_) (a':=?_) (zzB 24 1023) rfl rfl (zzA2 HT_.out) (fun _ _ _ h=>h) (Or.inl ⟨by rfl,?_⟩) ?_ ?_;rotate_left
       ·
        intro w';go_simp;with_reducible rfl
       rotate_left
       ·
        simp only [Act.put,zzq,zzr,zzs,i64_w,i32_w];rfl
       refine pure_ (i:=10) (N:=some 20) (v:=undef) (a':=?_) (zzB 24 2047) rfl rfl (zzA2 HT_.out) (fun _ _ _ h=>h) (Or.inr ⟨by rfl,rfl⟩) ?_ ?_;rotate_left
       ·
        simp only [Act.put,zzq,zzr,zzs,i64_w,i32_w];rfl
       refine pure_ (i:=11) (N:=some 21) (v:=undef) (a':=?_) (zzB 24 4095) rfl rfl (zzA2 HT_.out) (fun _ _ _ h=>h) (Or.inr ⟨by rfl,rfl⟩) ?_ ?_;rotate_left
       ·
        simp only [Act.put,zzq,zzr,zzs,i64_w,i32_w];rfl
       refine pure_ (i:=12) (N:=some 22) (v:=undef) (a':=?_) (zzB 24 8191) rfl rfl (zzA2 HT_.out) (fun _ _ _ h=>h) (Or.inr ⟨by rfl,rfl⟩) ?_ ?_;rotate_left
       ·
        simp only [Act.put,zzq,zzr,zzs,i64_w,i32_w];rfl
       refine pure_ (i:=13) (N:=some 23) (v:=undef) (a':=?_) (zzB 24 16383) rfl rfl (zzA2 HT_.out) (fun _ _ _ h=>h) (Or.inr ⟨by rfl,rfl⟩) ?_ ?_;rotate_left
       ·
        simp only [Act.put,zzq,zzr,zzs,i64_w,i32_w];rfl
       refine pure_ (i:=14) (N:=some 24) (v:=undef) (a':=?_) (zzB 24 32767) rfl rfl (zzA2 HT_.out) (fun _ _ _ h=>h) (Or.inr ⟨by rfl,rfl⟩) ?_ ?_;rotate_left
       ·
        simp only [Act.put,zzq,zzr,zzs,i64_w,i32_w];rfl
       refine pure_ (i:=15) (N:=some 25) (v:=undef) (a':=?_) (zzB 24 65535) rfl rfl (zzA2 HT_.out) (fun _ _ _ h=>h) (Or.inr ⟨by rfl,rfl⟩) ?_ ?_;rotate_left
       ·
        simp only [Act.put,zzq,zzr,zzs,i64_w,i32_w];rfl
       refine pure_ (i:=16) (N:=some 26) (v:=undef) (a':=?_) (zzB 24 131071) rfl rfl (zzA2 HT_.out) (fun _ _ _ h=>h) (Or.inr ⟨by rfl,rfl⟩) ?_ ?_;rotate_left
       ·
        simp only [Act.put,zzq,zzr,zzs,i64_w,i32_w];rfl
       refine pure_ (i:=17) (N:=some 27) (v:=undef) (a':=?_) (zzB 24 262143) rfl rfl (zzA2 HT_.out) (fun _ _ _ h=>h) (Or.inr ⟨by rfl,rfl⟩) ?_ ?_;rotate_left
       ·
        simp only [Act.put,zzq,zzr,zzs,i64_w,i32_w];rfl
       refine pure_ (i:=18) (N:=some 28) (v:=undef) (a':=?_) (zzB 24 524287) rfl rfl (zzA2 HT_.out) (fun _ _ _ h=>h) (Or.inr ⟨by rfl,rfl⟩) ?_ ?_;rotate_left
       ·
        simp only [Act.put,zzq,zzr,zzs,i64_w,i32_w];rfl
       refine pure_ (i:=19) (N:=some 29) (v:=undef) (a':=?_) (zzB 24 1048575) rfl rfl (zzA2 HT_.out) (fun _ _ _ h=>h) (Or.inr ⟨by rfl,rfl⟩) ?_ ?_;rotate_left
       ·
        simp only [Act.put,zzq,zzr,zzs,i64_w,i32_w];rfl
       refine pure_ (i:=20) (N:=some 30) (v:=undef) (a':=?_) (zzB 24 2097151) rfl rfl (zzA2 HT_.out) (fun _ _ _ h=>h) (Or.inr ⟨by rfl,rfl⟩) ?_ ?_;rotate_left
       ·
        simp only [Act.put,zzq,zzr,zzs,i64_w,i32_w];rfl
       refine pure_ (i:=21) (N:=some 31) (v:=undef) (a':=?_) (zzB 24 4194303) rfl rfl (zzA2 HT_.out) (fun _ _ _ h=>h) (Or.inr ⟨by rfl,rfl⟩) ?_ ?_;rotate_left
       ·
        simp only [Act.put,zzq,zzr,zzs,i64_w,i32_w];rfl
       refine pure_ (i:=22) (N:=some 32) (v:=?_) (a':=?_) (zzB 24 8388607) rfl rfl (zzA2 HT_.out) (fun _ _ _ h=>h) (Or.inl ⟨by rfl,?_⟩) ?_ ?_;rotate_left
       ·
        intro w';go_simp;with_reducible rfl
       rotate_left
       ·
        simp only [Act.put,zzq,zzr,zzs,i64_w,i32_w];rfl
       refine pure_ (i:=23) (N:=some 33) (v:=?_) (a':=?_) (zzB 24 16777215) rfl rfl (zzA2 HT_.out) (fun _ _ _ h=>h) (Or.inl ⟨by rfl,?_⟩) ?_ ?_;rotate_left
       ·
        intro w';go_simp;with_reducible rfl
       rotate_left
       ·
        simp only [Act.put,zzq,zzr,zzs,i64_w,i32_w];rfl
       refine done_ (done_of HT_.out (by kernel_rfl)) ?_;try go_wp2
       go_roundg k1
       case measure=>have:=HK1.out;omega
       case rel=>exact ⟨(wrap64 (x3_1+1)),(by first|rfl|(simp;done)|(simp [*];done)),H',⟨by have:=HK1.out;omega⟩,⟨zzh1⟩⟩
     ·
      replace c5:=Bool.eq_false_iff.mpr c5;subst c5;have H1:(some false)=some r:=by rw [if_neg (show ¬ (false=true) by decide)] at H;exact H
      clear H;have H:=H1;clear H1;obtain rfl:=Option.some.inj H;try go_wp2
      have n0_:=zzm (zzc HB.out);clear HB;have HB:=n0_;clear n0_;have p218 : 0≤(x3_1:Int):=zzt;have q218:x3_1 < (l0.length:Int):=zzt;obtain ⟨ad218,A218_3,c218_3,A218_5,c218_5,e218,hx218_0,hx218_1,hx218_2,hx218_3,hx218_4,hx218_5,hl218_3,hi218_3,hl218_5,hi218_5⟩:=Qy HR0.out x3_1 p218 q218;have hw218_5:=hx218_5;have hw218_4:=hx218_4;have hw218_3:=hx218_3;have hw218_2:=hx218_2;have hw218_1:=hx218_1;have hw218_0:=hx218_0;cases e218;replace hx218_0:=zzx HB.out hx218_0;replace hx218_1:=zzx HB.out hx218_1;replace hx218_2:=zzx HB.out hx218_2;replace hx218_3:=zzx HB.out hx218_3;replace hx218_4:=zzx HB.out hx218_4;replace hx218_5:=zzx HB.out hx218_5;have HR218_3:=zzm hi218_3;have HC218_3:=zzm hl218_3;clear hi218_3 hl218_3;have HR218_5:=zzm hi218_5;have HC218_5:=zzm hl218_5;clear hi218_5 hl218_5;replace p218:=eq_true p218;replace q218:=eq_true q218;refine start_ (n:=24) (S:=fun w'=>w'.cell? (ad218.add ((x3_1).toNat * 6))=some (.int .i64 ((Qb l0 x3_1).f0))∧w'.cell? ⟨(ad218.add ((x3_1).toNat * 6)).block,(ad218.add ((x3_1).toNat * 6)).off+1,none⟩=some (.int .i64 ((Qb l0 x3_1).f1))∧w'.cell? ⟨(ad218.add ((x3_1).toNat * 6)).block,(ad218.add ((x3_1).toNat * 6)).off+2,none⟩=some (.bool ((Qb l0 x3_1).f2))∧w'.cell? ⟨(ad218.add ((x3_1).toNat * 6)).block,(ad218.add ((x3_1).toNat * 6)).off+3,none⟩=some (.slice A218_3 ((Qb l0 x3_1).f3).length c218_3)∧w'.cell? ⟨(ad218.add ((x3_1).toNat * 6)).block,(ad218.add ((x3_1).toNat * 6)).off+4,none⟩=some (.bool ((Qb l0 x3_1).f4))∧w'.cell? ⟨(ad218.add ((x3_1).toNat * 6)).block,(ad218.add ((x3_1).toNat * 6)).off+5,none⟩=some (.slice A218_5 ((Qb l0 x3_1).f5).length c218_5)) (ds:=[]) (zzB 24 0) (by kernel_rfl) rfl rfl ⟨(zzx HB.out hw218_0),(zzx HB.out hw218_1),(zzx HB.out hw218_2),(zzx HB.out hw218_3),(zzx HB.out hw218_4),(zzx HB.out hw218_5)⟩ (fun hHeld=>?_);refine with_tabW Qm.tab4 Qm.bits4 (fun HT_ HW_=>?_);generalize wr.drew=w17 at HB HR218_3 HR218_5 hx218_0 hx218_1 hx218_2 hx218_3 hx218_4 hx218_5 hHeld ⊢;refine pure_ (i:=0) (N:=some 10) (v:=?_) (a':=?_) (zzB 24 1) rfl rfl (zzA2 HT_.out) (fun _ _ _ h=>h) (Or.inl ⟨by rfl,?_⟩) ?_ ?_;rotate_left
      ·
       intro w';go_simp;with_reducible rfl
      rotate_left
      ·
       simp only [Act.put,zzq,zzr,zzs,i64_w,i32_w];rfl
      refine pure_ (i:=1) (N:=some 11) (v:=?_) (a':=?_) (zzB 24 3) rfl rfl (zzA2 HT_.out) (fun _ _ _ h=>h) (Or.inl ⟨by rfl,?_⟩) ?_ ?_;rotate_left
      ·
       intro w';go_simp;with_reducible rfl
      rotate_left
      ·
       simp only [Act.put,zzq,zzr,zzs,i64_w,i32_w];rfl
      refine pure_ (i:=2) (N:=some 12) (v:=?_) (a':=?_) (zzB 24 7) rfl rfl (zzA2 HT_.out) (fun _ _ _ h=>h) (Or.inl ⟨by rfl,?_⟩) ?_ ?_;rotate_left
      ·
       intro w';go_simp;with_reducible rfl
      rotate_left
      ·
       simp only [Act.put,zzq,zzr,zzs,i64_w,i32_w];rfl
      refine take_ (i:=3) (N:=some 13) (v:=?_) (a':=?_) (zzB 24 15) rfl rfl (take_ofW HT_.out HW_.out (by kernel_rfl)) (fun _ _ _ h=>h) (Or.inl ⟨by rfl,?_⟩) hHeld ?_ ?_;rotate_left
      ·
       rintro w' ⟨s0,s1,s2,s3,s4,s5⟩;go_simp;with_reducible rfl
      rotate_left
      ·
       simp only [Act.put,zzq,zzr,zzs,i64_w,i32_w];rfl
      refine one_ (i:=4) (N:=some 14) (zzB 24 31) rfl rfl (one_of HT_.out (by kernel_rfl)) (by decide) (fun K hK=>?_);refine goes_ Try.func95 (by kernel_rfl) rfl #[.agg #[.int .i64 ((Qb l0 x3_1).f0),.int .i64 ((Qb l0 x3_1).f1),.bool ((Qb l0 x3_1).f2),.slice A218_3 ((Qb l0 x3_1).f3).length c218_3,.bool ((Qb l0 x3_1).f4),.slice A218_5 ((Qb l0 x3_1).f5).length c218_5]] (by rfl) rfl rfl zzM2 ?_;with_reducible refine (Q4.calls k1 ((Qb l0 x3_1).f0) ((Qb l0 x3_1).f1) ((Qb l0 x3_1).f2) _ _ ((Qb l0 x3_1).f3) ((Qb l0 x3_1).f4) _ _ ((Qb l0 x3_1).f5) false _ ?side1 ?side2 ?side3 ?side4 A4.out).mono ?_
      (case side1=>repeat (first|exact (Kd.C_below HR218_3.out HB.out)|(with_reducible refine Kd.C_alloc ?_ _)|(with_reducible refine Kd.C_drewN ?_ _)|(with_reducible refine Kd.C_drew ?_)))
      (case side2=>exact HC218_3.out)
      (case side3=>repeat (first|exact (Kd.C_below HR218_5.out HB.out)|(with_reducible refine Kd.C_alloc ?_ _)|(with_reducible refine Kd.C_drewN ?_ _)|(with_reducible refine Kd.C_drew ?_)))
      (case side4=>exact HC218_5.out);rintro e w18 ⟨rfl,hb⟩;refine ⟨_,rfl,?_⟩;have n0_:=zzm (zzp zzh1 hb);clear HB;have HB:=n0_;clear n0_
      (try clear hb)
      (try clear hb2)
      (try clear hk)
      (try clear hi);refine hK.out _ _ ⟨(zzx HB.out hw218_0),(zzx HB.out hw218_1),(zzx HB.out hw218_2),(zzx HB.out hw218_3),(zzx HB.out hw218_4),(zzx HB.out hw218_5)⟩ (fun hHeld=>?_);clear hK K;refine norm_ (a':=?_) ?_ ?_;rotate_left
      ·
       show Act.put _ (some 14) _ = _;simp only [Act.put,zzq,zzr,zzs,i64_w,i32_w];rfl
      refine pure_ (i:=5) (N:=some 15) (v:=?_) (a':=?_) (zzB 24 63) rfl rfl (zzA2 HT_.out) (fun _ _ _ h=>h) (Or.inl ⟨by rfl,?_⟩) ?_ ?_;rotate_left
      ·
       intro w';go_simp;with_reducible rfl
      rotate_left
      ·
       simp only [Act.put,zzq,zzr,zzs,i64_w,i32_w];rfl
      refine pure_ (i:=6) (N:=some 16) (v:=?_) (a':=?_) (zzB 24 127) rfl rfl (zzA2 HT_.out) (fun _ _ _ h=>h) (Or.inl ⟨by rfl,?_⟩) ?_ ?_;rotate_left
      ·
       intro w';go_simp;with_reducible rfl
      rotate_left
      ·
       simp only [Act.put,zzq,zzr,zzs,i64_w,i32_w];rfl
      refine pure_ (i:=7) (N:=some 17) (v:=undef) (a':=?_) (zzB 24 255) rfl rfl (zzA2 HT_.out) (fun _ _ _ h=>h) (Or.inr ⟨by rfl,rfl⟩) ?_ ?_;rotate_left
      ·
       simp only [Act.put,zzq,zzr,zzs,i64_w,i32_w];rfl
      refine pure_ (i:=8) (N:=some 18) (v:=undef) (a':=?_) (zzB 24 511) rfl rfl (zzA2 HT_.out) (fun _ _ _ h=>h) (Or.inr ⟨by rfl,rfl⟩) ?_ ?_;rotate_left
      ·
       simp only [Act.put,zzq,zzr,zzs,i64_w,i32_w];rfl
      refine pure_ (i:=9) (N:=some 19) (v:=undef) (a':=?_) (zzB 24 1023) rfl rfl (zzA2 HT_.out) (fun _ _ _ h=>h) (Or.inr ⟨by rfl,rfl⟩) ?_ ?_;rotate_left
      ·
       simp only [Act.put,zzq,zzr,zzs,i64_w,i32_w];rfl
      refine pure_ (i:=10) (N:=some 20) (v:=undef) (a':=?_) (zzB 24 2047) rfl rfl (zzA2 HT_.out) (fun _ _ _ h=>h) (Or.inr ⟨by rfl,rfl⟩) ?_ ?_;rotate_left
      ·
       simp only [Act.put,zzq,zzr,zzs,i64_w,i32_w];rfl
      refine pure_ (i:=11) (N:=some 21) (v:=undef) (a':=?_) (zzB 24 4095) rfl rfl (zzA2 HT_.out) (fun _ _ _ h=>h) (Or.inr ⟨by rfl,rfl⟩) ?_ ?_;rotate_left
      ·
       simp only [Act.put,zzq,zzr,zzs,i64_w,i32_w];rfl
      refine pure_ (i:=12) (N:=some 22) (v:=undef) (a':=?_) (zzB 24 8191) rfl rfl (zzA2 HT_.out) (fun _ _ _ h=>h) (Or.inr ⟨by rfl,rfl⟩) ?_ ?_;rotate_left
      ·
       simp only [Act.put,zzq,zzr,zzs,i64_w,i32_w];rfl
      refine pure_ (i:=13) (N:=some 23) (v:=undef) (a':=?_) (zzB 24 16383) rfl rfl (zzA2 HT_.out) (fun _ _ _ h=>h) (Or.inr ⟨by rfl,rfl⟩) ?_ ?_;rotate_left
      ·
       simp only [Act.put,zzq,zzr,zzs,i64_w,i32_w];rfl
      refine pure_ (i:=14) (N:=some 24) (v:=undef) (a':=?_) (zzB 24 32767) rfl rfl (zzA2 HT_.out) (fun _ _ _ h=>h) (Or.inr ⟨by rfl,rfl⟩) ?_ ?_;rotate_left
      ·
       simp only [Act.put,zzq,zzr,zzs,i64_w,i32_w];rfl
      refine pure_ (i:=15) (N:=some 25) (v:=undef) (a':=?_) (zzB 24 65535) rfl rfl (zzA2 HT_.out) (fun _ _ _ h=>h) (Or.inr ⟨by rfl,rfl⟩) ?_ ?_;rotate_left
      ·
       simp only [Act.put,zzq,zzr,zzs,i64_w,i32_w];rfl
      refine pure_ (i:=16) (N:=some 26) (v:=undef) (a':=?_) (zzB 24 131071) rfl rfl (zzA2 HT_.out) (fun _ _ _ h=>h) (Or.inr ⟨by rfl,rfl⟩) ?_ ?_;rotate_left
      ·
       simp only [Act.put,zzq,zzr,zzs,i64_w,i32_w];rfl
      refine pure_ (i:=17) (N:=some 27) (v:=undef) (a':=?_) (zzB 24 262143) rfl rfl (zzA2 HT_.out) (fun _ _ _ h=>h) (Or.inr ⟨by rfl,rfl⟩) ?_ ?_;rotate_left
      ·
       simp only [Act.put,zzq,zzr,zzs,i64_w,i32_w];rfl
      refine pure_ (i:=18) (N:=some 28) (v:=undef) (a':=?_) (zzB 24 524287) rfl rfl (zzA2 HT_.out) (fun _ _ _ h=>h) (Or.inr ⟨by rfl,rfl⟩) ?_ ?_;rotate_left
      ·
       simp only [Act.put,zzq,zzr,zzs,i64_w,i32_w];rfl
      refine pure_ (i:=19) (N:=some 29) (v:=undef) (a':=?_) (zzB 24 1048575) rfl rfl (zzA2 HT_.out) (fun _ _ _ h=>h) (Or.inr ⟨by rfl,rfl⟩) ?_ ?_;rotate_left
      ·
       simp only [Act.put,zzq,zzr,zzs,i64_w,i32_w];rfl
      refine pure_ (i:=20) (N:=some 30) (v:=undef) (a':=?_) (zzB 24 2097151) rfl rfl (zzA2 HT_.out) (fun _ _ _ h=>h) (Or.inr ⟨by rfl,rfl⟩) ?_ ?_;rotate_left
      ·
       simp only [Act.put,zzq,zzr,zzs,i64_w,i32_w];rfl
      refine pure_ (i:=21) (N:=some 31) (v:=undef) (a':=?_) (zzB 24 4194303) rfl rfl (zzA2 HT_.out) (fun _ _ _ h=>h) (Or.inr ⟨by rfl,rfl⟩) ?_ ?_;rotate_left
      ·
       simp only [Act.put,zzq,zzr,zzs,i64_w,i32_w];rfl
      refine pure_ (i:=22) (N:=some 32) (v:=undef) (a':=?_) (zzB 24 8388607) rfl rfl (zzA2 HT_.out) (fun _ _ _ h=>h) (Or.inr ⟨by rfl,rfl⟩) ?_ ?_;rotate_left
      ·
       simp only [Act.put,zzq,zzr,zzs,i64_w,i32_w];rfl
      refine pure_ (i:=23) (N:=some 33) (v:=?_) (a':=?_) (zzB 24 16777215) rfl rfl (zzA2 HT_.out) (fun _ _ _ h=>h) (Or.inl ⟨by rfl,?_⟩) ?_ ?_;rotate_left
      ·
       intro w';go_simp;with_reducible rfl
      rotate_left
      ·
       simp only [Act.put,zzq,zzr,zzs,i64_w,i32_w];rfl
      refine done_ (done_of HT_.out (by kernel_rfl)) ?_;try go_wp2
      go_ret;exact ⟨by first|rfl|(simp [errW_none,errW_some] <;> rfl)|(simp [*,errW_none,errW_some] <;> rfl),zzh1⟩
    ·
     rw [if_neg c3] at H;exact absurd H (by simp)
   ·
    rw [if_neg c2] at H;have c2b0:decide (x3_1 < (l0.length:Int))=false:=decide_eq_false c2;clear c2;replace H:=Option.bind_eq_some_iff.mp H;obtain ⟨t222,A190,H⟩:=H;replace H:(some t222)=some r:=H;have A19:=zzm A190;clear A190;obtain rfl:=Option.some.inj H;go_wp2_with (first|((with_reducible refine gate_callee (f:=84) rfl ?_);refine goesL_ (some 36) rfl rfl Try.func84 (by kernel_rfl) rfl #[.int .i64 (l0.length:Int),.int .i64 1,.int .i64 6] rfl zzM2 ?_;(with_reducible refine (Qr.calls (l0.length:Int) 1 6 t222 _ A19.out).mono ?_);rintro e w' ⟨rfl,⟨nd,rfl⟩⟩;refine ⟨_,rfl,?_⟩));go_ret;exact ⟨by first|rfl|(simp [errW_none,errW_some] <;> rfl)|(simp [*,errW_none,errW_some] <;> rfl),zzh1⟩
def Qi.j0:Nat→Bool→Bool→Bool→Int→Int→Int→List (S30)→Option (Bool)
 | 0,_,_,_,_,_,_,_=>none
 | k+1,x24,x224000,x224001,x224002,x224003,x224004,x224005=>if x24=true then (some false) else (if x224002=255 then (if x224003=0 then (if x224004=0 then (some (!x224001)) else (some false)) else (some false)) else (if x224001=true then (some ((x224005.length:Int)==1)) else (some true)))
def Qi.f (k:Nat) (a0_0:Bool) (a0_1:Bool) (a0_2:Int) (a0_3:Int) (a0_4:Int) (l0_5:List (S30)):Option (Bool):=(Qm.f k l0_5).bind fun t224=>(if t224=true then ((Qr.f a0_2 0 255).bind fun t225=>(if t225=true then ((Qr.f a0_3 0 99).bind fun t226=>(if t226=true then ((Qr.f a0_4 0 9999).bind fun t227=>(Qi.j0 k (!t227) a0_0 a0_1 a0_2 a0_3 a0_4 l0_5)) else (Qi.j0 k true a0_0 a0_1 a0_2 a0_3 a0_4 l0_5))) else (Qi.j0 k true a0_0 a0_1 a0_2 a0_3 a0_4 l0_5))) else (Qi.j0 k true a0_0 a0_1 a0_2 a0_3 a0_4 l0_5))
set_option maxHeartbeats 8000000 in
set_option maxRecDepth 100000 in
theorem Qi.calls (k:Nat) (a0_0:Bool) (a0_1:Bool) (a0_2:Int) (a0_3:Int) (a0_4:Int) (A0_5:Option Addr) (c0_5:Nat) (l0_5:List (S30)) (r:Bool) (w:World) (hr0_5:Kd.C k30 w A0_5 l0_5.length l0_5) (hc0_5:l0_5.length≤c0_5) (h:Qi.f k a0_0 a0_1 a0_2 a0_3 a0_4 l0_5=some r) :
  Calls Try.prog 66 #[.agg #[.bool a0_0,.bool a0_1,.int .i64 a0_2,.int .i64 a0_3,.int .i64 a0_4,.slice A0_5 l0_5.length c0_5]] w fun e w'=>e = .returned (.bool r)∧Below w.heap.size w w':=by
 have hu34:=Try.underlying34;have HR0_5:=zzm hr0_5;have HC0_5:=zzm hc0_5;clear hr0_5 hc0_5;have HB:=zzm (Below.refl w.heap.size w);have H:((Qm.f k l0_5).bind fun t224=>(if t224=true then ((Qr.f a0_2 0 255).bind fun t225=>(if t225=true then ((Qr.f a0_3 0 99).bind fun t226=>(if t226=true then ((Qr.f a0_4 0 9999).bind fun t227=>(Qi.j0 k (!t227) a0_0 a0_1 a0_2 a0_3 a0_4 l0_5)) else (Qi.j0 k true a0_0 a0_1 a0_2 a0_3 a0_4 l0_5))) else (Qi.j0 k true a0_0 a0_1 a0_2 a0_3 a0_4 l0_5))) else (Qi.j0 k true a0_0 a0_1 a0_2 a0_3 a0_4 l0_5)))=some r:=h;clear h;have HC2:=zzm H;clear H;go_enter Try.func66,Try.ntmps66;go_upto_region 1 with (first|((with_reducible refine gate_dst (N:=1) rfl ?_);(try (refine gate_guard (by rfl) ?_;dsimp only));refine box_event ?hg (N:=1) ?hd (cs:=#[.bool a0_0,.bool a0_1,.int .i64 a0_2,.int .i64 a0_3,.int .i64 a0_4,.slice A0_5 l0_5.length c0_5]) (t:=34) ?hr ?_;(case hd=>rfl);(case hg=>rfl);(case hr=>first|(go_simp;done)|(go_simp;rfl));intro gb223 hg w3 hbox hb;have n0_:=zzm (zzp zzh1 hb);have n1_:=zzm (hbox);have n2_:=zzm ((by rw [hg];exact (zzo zzh1):w.heap.size≤gb223));have n3_:=zzm ((by rw [hg];exact (zzo zzh1):w.heap.size≤gb223));clear HB;have HB:=n0_;have BK223:=n1_;have GW223:=n2_;have GE223:=n3_;clear n0_ n1_ n2_ n3_ hb hbox hg))
 (try simp only [Act.put,zzq,zzr,zzs]);go_cut [24] (fun v24 wc=>∃ (kq:Nat) (x24_1:Bool),v24 = .bool x24_1∧Aside0 (Qi.j0 kq x24_1 a0_0 a0_1 a0_2 a0_3 a0_4 l0_5=some r)∧Aside0 (kq≤k)∧Aside0 (wc.heap[gb223]? = some (.cells #[.bool a0_0,.bool a0_1,.int .i64 a0_2,.int .i64 a0_3,.int .i64 a0_4,(.slice A0_5 l0_5.length c0_5)] 34 (0,0)))∧Aside0 (Below w.heap.size w wc))
 case first=>
  have H:=HC2.out;clear HC2;replace H:=Option.bind_eq_some_iff.mp H;obtain ⟨t224,A40,H⟩:=H;replace H:(if t224=true then ((Qr.f a0_2 0 255).bind fun t225=>(if t225=true then ((Qr.f a0_3 0 99).bind fun t226=>(if t226=true then ((Qr.f a0_4 0 9999).bind fun t227=>(Qi.j0 k (!t227) a0_0 a0_1 a0_2 a0_3 a0_4 l0_5)) else (Qi.j0 k true a0_0 a0_1 a0_2 a0_3 a0_4 l0_5))) else (Qi.j0 k true a0_0 a0_1 a0_2 a0_3 a0_4 l0_5))) else (Qi.j0 k true a0_0 a0_1 a0_2 a0_3 a0_4 l0_5))=some r:=H;have A4:=zzm A40;clear A40;by_cases c5:t224=true
  ·
   subst c5;have H1:((Qr.f a0_2 0 255).bind fun t225=>(if t225=true then ((Qr.f a0_3 0 99).bind fun t226=>(if t226=true then ((Qr.f a0_4 0 9999).bind fun t227=>(Qi.j0 k (!t227) a0_0 a0_1 a0_2 a0_3 a0_4 l0_5)) else (Qi.j0 k true a0_0 a0_1 a0_2 a0_3 a0_4 l0_5))) else (Qi.j0 k true a0_0 a0_1 a0_2 a0_3 a0_4 l0_5)))=some r:=by rw [if_pos rfl] at H;exact H
   clear H;have H:=H1;clear H1;replace H:=Option.bind_eq_some_iff.mp H;obtain ⟨t225,A60,H⟩:=H;replace H:(if t225=true then ((Qr.f a0_3 0 99).bind fun t226=>(if t226=true then ((Qr.f a0_4 0 9999).bind fun t227=>(Qi.j0 k (!t227) a0_0 a0_1 a0_2 a0_3 a0_4 l0_5)) else (Qi.j0 k true a0_0 a0_1 a0_2 a0_3 a0_4 l0_5))) else (Qi.j0 k true a0_0 a0_1 a0_2 a0_3 a0_4 l0_5))=some r:=H;have A6:=zzm A60;clear A60;by_cases c7:t225=true
   ·
    subst c7;have H1:((Qr.f a0_3 0 99).bind fun t226=>(if t226=true then ((Qr.f a0_4 0 9999).bind fun t227=>(Qi.j0 k (!t227) a0_0 a0_1 a0_2 a0_3 a0_4 l0_5)) else (Qi.j0 k true a0_0 a0_1 a0_2 a0_3 a0_4 l0_5)))=some r:=by rw [if_pos rfl] at H;exact H
    clear H;have H:=H1;clear H1;replace H:=Option.bind_eq_some_iff.mp H;obtain ⟨t226,A80,H⟩:=H;replace H:(if t226=true then ((Qr.f a0_4 0 9999).bind fun t227=>(Qi.j0 k (!t227) a0_0 a0_1 a0_2 a0_3 a0_4 l0_5)) else (Qi.j0 k true a0_0 a0_1 a0_2 a0_3 a0_4 l0_5))=some r:=H;have A8:=zzm A80;clear A80;by_cases c9:t226=true
    ·
     subst c9;have H1:((Qr.f a0_4 0 9999).bind fun t227=>(Qi.j0 k (!t227) a0_0 a0_1 a0_2 a0_3 a0_4 l0_5))=some r:=by rw [if_pos rfl] at H;exact H
     clear H;have H:=H1;clear H1;replace H:=Option.bind_eq_some_iff.mp H;obtain ⟨t227,A100,H⟩:=H;replace H:(Qi.j0 k (!t227) a0_0 a0_1 a0_2 a0_3 a0_4 l0_5)=some r:=H;have A10:=zzm A100;clear A100;have H':=zzm H;clear H;obtain ⟨hcz11_0,hcz11_1,hcz11_2,hcz11_3,hcz11_4,hcz11_5,hfz11_0,hfz11_1,hfz11_2,hfz11_3,hfz11_4,hfz11_5⟩:=zzc6 BK223.out;go_wp2_with (first|((with_reducible refine gate_callee (f:=83) rfl ?_);refine goesL_ (some 5) rfl rfl Try.func83 (by kernel_rfl) rfl #[.slice A0_5 l0_5.length c0_5] rfl zzM2 ?_;(with_reducible refine (Qm.calls k _ _ l0_5 true _ ?side1 ?side2 A4.out).mono ?_);(case side1=>repeat (first|exact (Kd.C_below HR0_5.out HB.out)|(with_reducible refine Kd.C_alloc ?_ _)|(with_reducible refine Kd.C_drewN ?_ _)|(with_reducible refine Kd.C_drew ?_)));(case side2=>exact HC0_5.out);rintro e w12 ⟨rfl,hb⟩;refine ⟨_,rfl,?_⟩;have n0_:=zzm (zzh (g:=gb223) (o:=.cells #[.bool a0_0,.bool a0_1,.int .i64 a0_2,.int .i64 a0_3,.int .i64 a0_4,.slice A0_5 l0_5.length c0_5] 34 (0,0)) (zzE BK223.out) hb);have n1_:=zzm (zzp zzh2 hb);clear BK223 HB;have BK223:=n0_;have HB:=n1_;clear n0_ n1_;(try clear hb);(try clear hb2);(try clear hk);(try clear hi);obtain ⟨hcz13_0,hcz13_1,hcz13_2,hcz13_3,hcz13_4,hcz13_5,hfz13_0,hfz13_1,hfz13_2,hfz13_3,hfz13_4,hfz13_5⟩:=zzc6 BK223.out)|(go_at_call 84;(with_reducible refine (Qr.calls a0_2 0 255 true _ A6.out).mono ?_);rintro e w' ⟨rfl,⟨nd,rfl⟩⟩)|(go_at_call 84;(with_reducible refine (Qr.calls a0_3 0 99 true _ A8.out).mono ?_);rintro e w' ⟨rfl,⟨nd,rfl⟩⟩)|(go_at_call 84;(with_reducible refine (Qr.calls a0_4 0 9999 t227 _ A10.out).mono ?_);rintro e w' ⟨rfl,⟨nd,rfl⟩⟩));go_meet
     case rel=>exact ⟨_,(!t227),(by first|rfl|(simp;done)|(simp [*];done)),H',⟨by first|omega|exact Nat.le_refl _⟩,⟨by (with_reducible repeat (first|apply zzf|apply zzg|apply zze));exact BK223.out⟩,⟨by repeat (first|(with_reducible first|exact HB.out|apply zza|apply zzb|apply zzc|refine zzd ?_ GE223.out)|exact HB.out)⟩⟩
    ·
     replace c9:=Bool.eq_false_iff.mpr c9;subst c9;have H1:(Qi.j0 k true a0_0 a0_1 a0_2 a0_3 a0_4 l0_5)=some r:=by rw [if_neg (show ¬ (false=true) by decide)] at H;exact H
     clear H;have H:=H1;clear H1;have H':=zzm H;clear H;obtain ⟨hcz14_0,hcz14_1,hcz14_2,hcz14_3,hcz14_4,hcz14_5,hfz14_0,hfz14_1,hfz14_2,hfz14_3,hfz14_4,hfz14_5⟩:=zzc6 BK223.out;go_wp2_with (first|((with_reducible refine gate_callee (f:=83) rfl ?_);refine goesL_ (some 5) rfl rfl Try.func83 (by kernel_rfl) rfl #[.slice A0_5 l0_5.length c0_5] rfl zzM2 ?_;(with_reducible refine (Qm.calls k _ _ l0_5 true _ ?side1 ?side2 A4.out).mono ?_);(case side1=>repeat (first|exact (Kd.C_below HR0_5.out HB.out)|(with_reducible refine Kd.C_alloc ?_ _)|(with_reducible refine Kd.C_drewN ?_ _)|(with_reducible refine Kd.C_drew ?_)));(case side2=>exact HC0_5.out);rintro e w15 ⟨rfl,hb⟩;refine ⟨_,rfl,?_⟩;have n0_:=zzm (zzh (g:=gb223) (o:=.cells #[.bool a0_0,.bool a0_1,.int .i64 a0_2,.int .i64 a0_3,.int .i64 a0_4,.slice A0_5 l0_5.length c0_5] 34 (0,0)) (zzE BK223.out) hb);have n1_:=zzm (zzp zzh2 hb);clear BK223 HB;have BK223:=n0_;have HB:=n1_;clear n0_ n1_;(try clear hb);(try clear hb2);(try clear hk);(try clear hi);obtain ⟨hcz16_0,hcz16_1,hcz16_2,hcz16_3,hcz16_4,hcz16_5,hfz16_0,hfz16_1,hfz16_2,hfz16_3,hfz16_4,hfz16_5⟩:=zzc6 BK223.out)|(go_at_call 84;(with_reducible refine (Qr.calls a0_2 0 255 true _ A6.out).mono ?_);rintro e w' ⟨rfl,⟨nd,rfl⟩⟩)|(go_at_call 84;(with_reducible refine (Qr.calls a0_3 0 99 false _ A8.out).mono ?_);rintro e w' ⟨rfl,⟨nd,rfl⟩⟩));go_meet
     case rel=>exact ⟨_,(true),(by first|rfl|(simp;done)|(simp [*];done)),H',⟨by first|omega|exact Nat.le_refl _⟩,⟨by (with_reducible repeat (first|apply zzf|apply zzg|apply zze));exact BK223.out⟩,⟨by repeat (first|(with_reducible first|exact HB.out|apply zza|apply zzb|apply zzc|refine zzd ?_ GE223.out)|exact HB.out)⟩⟩
   ·
    replace c7:=Bool.eq_false_iff.mpr c7;subst c7;have H1:(Qi.j0 k true a0_0 a0_1 a0_2 a0_3 a0_4 l0_5)=some r:=by rw [if_neg (show ¬ (false=true) by decide)] at H;exact H
    clear H;have H:=H1;clear H1;have H':=zzm H;clear H;obtain ⟨hcz17_0,hcz17_1,hcz17_2,hcz17_3,hcz17_4,hcz17_5,hfz17_0,hfz17_1,hfz17_2,hfz17_3,hfz17_4,hfz17_5⟩:=zzc6 BK223.out;go_wp2_with (first|((with_reducible refine gate_callee (f:=83) rfl ?_);refine goesL_ (some 5) rfl rfl Try.func83 (by kernel_rfl) rfl #[.slice A0_5 l0_5.length c0_5] rfl zzM2 ?_;(with_reducible refine (Qm.calls k _ _ l0_5 true _ ?side1 ?side2 A4.out).mono ?_);(case side1=>repeat (first|exact (Kd.C_below HR0_5.out HB.out)|(with_reducible refine Kd.C_alloc ?_ _)|(with_reducible refine Kd.C_drewN ?_ _)|(with_reducible refine Kd.C_drew ?_)));(case side2=>exact HC0_5.out);rintro e w18 ⟨rfl,hb⟩;refine ⟨_,rfl,?_⟩;have n0_:=zzm (zzh (g:=gb223) (o:=.cells #[.bool a0_0,.bool a0_1,.int .i64 a0_2,.int .i64 a0_3,.int .i64 a0_4,.slice A0_5 l0_5.length c0_5] 34 (0,0)) (zzE BK223.out) hb);have n1_:=zzm (zzp zzh2 hb);clear BK223 HB;have BK223:=n0_;have HB:=n1_;clear n0_ n1_;(try clear hb);(try clear hb2);(try clear hk);(try clear hi);obtain ⟨hcz19_0,hcz19_1,hcz19_2,hcz19_3,hcz19_4,hcz19_5,hfz19_0,hfz19_1,hfz19_2,hfz19_3,hfz19_4,hfz19_5⟩:=zzc6 BK223.out)|(go_at_call 84;(with_reducible refine (Qr.calls a0_2 0 255 false _ A6.out).mono ?_);rintro e w' ⟨rfl,⟨nd,rfl⟩⟩));go_meet
    case rel=>exact ⟨_,(true),(by first|rfl|(simp;done)|(simp [*];done)),H',⟨by first|omega|exact Nat.le_refl _⟩,⟨by (with_reducible repeat (first|apply zzf|apply zzg|apply zze));exact BK223.out⟩,⟨by repeat (first|(with_reducible first|exact HB.out|apply zza|apply zzb|apply zzc|refine zzd ?_ GE223.out)|exact HB.out)⟩⟩
  ·
   replace c5:=Bool.eq_false_iff.mpr c5;subst c5;have H1:(Qi.j0 k true a0_0 a0_1 a0_2 a0_3 a0_4 l0_5)=some r:=by rw [if_neg (show ¬ (false=true) by decide)] at H;exact H
   clear H;have H:=H1;clear H1;have H':=zzm H;clear H;obtain ⟨hcz20_0,hcz20_1,hcz20_2,hcz20_3,hcz20_4,hcz20_5,hfz20_0,hfz20_1,hfz20_2,hfz20_3,hfz20_4,hfz20_5⟩:=zzc6 BK223.out;go_wp2_with (first|((with_reducible refine gate_callee (f:=83) rfl ?_);refine goesL_ (some 5) rfl rfl Try.func83 (by kernel_rfl) rfl #[.slice A0_5 l0_5.length c0_5] rfl zzM2 ?_;(with_reducible refine (Qm.calls k _ _ l0_5 false _ ?side1 ?side2 A4.out).mono ?_);(case side1=>repeat (first|exact (Kd.C_below HR0_5.out HB.out)|(with_reducible refine Kd.C_alloc ?_ _)|(with_reducible refine Kd.C_drewN ?_ _)|(with_reducible refine Kd.C_drew ?_)));(case side2=>exact HC0_5.out);rintro e w21 ⟨rfl,hb⟩;refine ⟨_,rfl,?_⟩;have n0_:=zzm (zzh (g:=gb223) (o:=.cells #[.bool a0_0,.bool a0_1,.int .i64 a0_2,.int .i64 a0_3,.int .i64 a0_4,.slice A0_5 l0_5.length c0_5] 34 (0,0)) (zzE BK223.out) hb);have n1_:=zzm (zzp zzh2 hb);clear BK223 HB;have BK223:=n0_;have HB:=n1_;clear n0_ n1_;(try clear hb);(try clear hb2);(try clear hk);(try clear hi)));go_meet
   case rel=>exact ⟨_,(true),(by first|rfl|(simp;done)|(simp [*];done)),H',⟨by first|omega|exact Nat.le_refl _⟩,⟨by (with_reducible repeat (first|apply zzf|apply zzg|apply zze));exact BK223.out⟩,⟨by repeat (first|(with_reducible first|exact HB.out|apply zza|apply zzb|apply zzc|refine zzd ?_ GE223.out)|exact HB.out)⟩⟩
 case rest=>
  clear HC2;try clear p2
  try clear c5
  try clear c6
  try clear c7
  try clear c8
  try clear c9
  try clear hcz11_0
  try clear hcz11_1
  try clear hcz11_2
  try clear hcz11_3
  try clear hcz11_4
  try clear hcz11_5
  try clear hcz13_0
  try clear hcz13_1
  try clear hcz13_2
  try clear hcz13_3
  try clear hcz13_4
  try clear hcz13_5
  try clear hcz14_0
  try clear hcz14_1
  try clear hcz14_2
  try clear hcz14_3
  try clear hcz14_4
  try clear hcz14_5
  try clear hcz16_0
  try clear hcz16_1
  try clear hcz16_2
  try clear hcz16_3
  try clear hcz16_4
  try clear hcz16_5
  try clear hcz17_0
  try clear hcz17_1
  try clear hcz17_2
  try clear hcz17_3
  try clear hcz17_4
  try clear hcz17_5
  try clear hcz19_0
  try clear hcz19_1
  try clear hcz19_2
  try clear hcz19_3
  try clear hcz19_4
  try clear hcz19_5
  try clear hcz20_0
  try clear hcz20_1
  try clear hcz20_2
  try clear hcz20_3
  try clear hcz20_4
  try clear hcz20_5
  try clear hfz11_0
  try clear hfz11_1
  try clear hfz11_2
  try clear hfz11_3
  try clear hfz11_4
  try clear hfz11_5
  try clear hfz13_0
  try clear hfz13_1
  try clear hfz13_2
  try clear hfz13_3
  try clear hfz13_4
  try clear hfz13_5
  try clear hfz14_0
  try clear hfz14_1
  try clear hfz14_2
  try clear hfz14_3
  try clear hfz14_4
  try clear hfz14_5
  try clear hfz16_0
  try clear hfz16_1
  try clear hfz16_2
  try clear hfz16_3
  try clear hfz16_4
  try clear hfz16_5
  try clear hfz17_0
  try clear hfz17_1
  try clear hfz17_2
  try clear hfz17_3
  try clear hfz17_4
  try clear hfz17_5
  try clear hfz19_0
  try clear hfz19_1
  try clear hfz19_2
  try clear hfz19_3
  try clear hfz19_4
  try clear hfz19_5
  try clear hfz20_0
  try clear hfz20_1
  try clear hfz20_2
  try clear hfz20_3
  try clear hfz20_4
  try clear hfz20_5
  obtain ⟨kq,x24_1,rfl,HA,HJ1,BK223,HB⟩:=hcut;cases kq with
  | zero=>exact absurd HA.out (by simp [Qi.j0])
  | succ kj1=>
   have H:=HA.out;clear HA;simp only [Qi.j0] at H;by_cases c22:x24_1=true
   ·
    subst c22;have H1:(some false)=some r:=by rw [if_pos rfl] at H;exact H
    clear H;have H:=H1;clear H1;obtain rfl:=Option.some.inj H;go_wp2;go_ret;exact ⟨by first|rfl|(simp [errW_none,errW_some] <;> rfl)|(simp [*,errW_none,errW_some] <;> rfl),by repeat (first|(with_reducible first|exact HB.out|apply zza|apply zzb|apply zzc|refine zzd ?_ GE223.out)|exact HB.out)⟩
   ·
    replace c22:=Bool.eq_false_iff.mpr c22;subst c22;have H1:(if a0_2=255 then (if a0_3=0 then (if a0_4=0 then (some (!a0_1)) else (some false)) else (some false)) else (if a0_1=true then (some ((l0_5.length:Int)==1)) else (some true)))=some r:=by rw [if_neg (show ¬ (false=true) by decide)] at H;exact H
    clear H;have H:=H1;clear H1;by_cases c23:a0_2=255
    ·
     rw [if_pos c23] at H;have c23b0:(a0_2==255)=true:=beq_iff_eq.mpr c23;have c23b1:(a0_2 != 255)=false:=bne_eq_false_iff_eq.mpr c23;clear c23;by_cases c24:a0_3=0
     ·
      rw [if_pos c24] at H;have c24b0:(a0_3==0)=true:=beq_iff_eq.mpr c24;have c24b1:(a0_3 != 0)=false:=bne_eq_false_iff_eq.mpr c24;clear c24;by_cases c25:a0_4=0
      ·
       rw [if_pos c25] at H;have c25b0:(a0_4==0)=true:=beq_iff_eq.mpr c25;have c25b1:(a0_4 != 0)=false:=bne_eq_false_iff_eq.mpr c25;clear c25;obtain rfl:=Option.some.inj H;obtain ⟨hcz26_0,hcz26_1,hcz26_2,hcz26_3,hcz26_4,hcz26_5,hfz26_0,hfz26_1,hfz26_2,hfz26_3,hfz26_4,hfz26_5⟩:=zzc6 BK223.out;go_wp2;go_ret;exact ⟨by first|rfl|(simp [errW_none,errW_some] <;> rfl)|(simp [*,errW_none,errW_some] <;> rfl),by repeat (first|(with_reducible first|exact HB.out|apply zza|apply zzb|apply zzc|refine zzd ?_ GE223.out)|exact HB.out)⟩
      ·
       rw [if_neg c25] at H;have c25b0:(a0_4==0)=false:=beq_eq_false_iff_ne.mpr c25;have c25b1:(a0_4 != 0)=true:=bne_iff_ne.mpr c25;obtain rfl:=Option.some.inj H;obtain ⟨hcz27_0,hcz27_1,hcz27_2,hcz27_3,hcz27_4,hcz27_5,hfz27_0,hfz27_1,hfz27_2,hfz27_3,hfz27_4,hfz27_5⟩:=zzc6 BK223.out;go_wp2;go_ret;exact ⟨by first|rfl|(simp [errW_none,errW_some] <;> rfl)|(simp [*,errW_none,errW_some] <;> rfl),by repeat (first|(with_reducible first|exact HB.out|apply zza|apply zzb|apply zzc|refine zzd ?_ GE223.out)|exact HB.out)⟩
     ·
      rw [if_neg c24] at H;have c24b0:(a0_3==0)=false:=beq_eq_false_iff_ne.mpr c24;have c24b1:(a0_3 != 0)=true:=bne_iff_ne.mpr c24;obtain rfl:=Option.some.inj H;obtain ⟨hcz28_0,hcz28_1,hcz28_2,hcz28_3,hcz28_4,hcz28_5,hfz28_0,hfz28_1,hfz28_2,hfz28_3,hfz28_4,hfz28_5⟩:=zzc6 BK223.out;go_wp2;go_ret;exact ⟨by first|rfl|(simp [errW_none,errW_some] <;> rfl)|(simp [*,errW_none,errW_some] <;> rfl),by repeat (first|(with_reducible first|exact HB.out|apply zza|apply zzb|apply zzc|refine zzd ?_ GE223.out)|exact HB.out)⟩
    ·
     rw [if_neg c23] at H;have c23b0:(a0_2==255)=false:=beq_eq_false_iff_ne.mpr c23;have c23b1:(a0_2 != 255)=true:=bne_iff_ne.mpr c23;by_cases c29:a0_1=true
     ·
      subst c29;have H1:(some ((l0_5.length:Int)==1))=some r:=by rw [if_pos rfl] at H;exact H
      clear H;have H:=H1;clear H1;obtain rfl:=Option.some.inj H;obtain ⟨hcz30_0,hcz30_1,hcz30_2,hcz30_3,hcz30_4,hcz30_5,hfz30_0,hfz30_1,hfz30_2,hfz30_3,hfz30_4,hfz30_5⟩:=zzc6 BK223.out;go_wp2;go_ret;exact ⟨by first|rfl|(simp [errW_none,errW_some] <;> rfl)|(simp [*,errW_none,errW_some] <;> rfl),by repeat (first|(with_reducible first|exact HB.out|apply zza|apply zzb|apply zzc|refine zzd ?_ GE223.out)|exact HB.out)⟩
     ·
      replace c29:=Bool.eq_false_iff.mpr c29;subst c29;have H1:(some true)=some r:=by rw [if_neg (show ¬ (false=true) by decide)] at H;exact H
      clear H;have H:=H1;clear H1;obtain rfl:=Option.some.inj H;obtain ⟨hcz31_0,hcz31_1,hcz31_2,hcz31_3,hcz31_4,hcz31_5,hfz31_0,hfz31_1,hfz31_2,hfz31_3,hfz31_4,hfz31_5⟩:=zzc6 BK223.out;go_wp2;go_ret;exact ⟨by first|rfl|(simp [errW_none,errW_some] <;> rfl)|(simp [*,errW_none,errW_some] <;> rfl),by repeat (first|(with_reducible first|exact HB.out|apply zza|apply zzb|apply zzc|refine zzd ?_ GE223.out)|exact HB.out)⟩
mutual
def Qh.j0:Nat→List (S34)→Int→List Int→Int→Option ((List (S34))×Int)
 | 0,_,_,_,_=>none
 | k+1,x3,x4,x1000,x1001=>(Qd.f k x1000 x1001 10).bind fun bt241=>(Qh.l0 k x3 x4 bt241.1 0 x1000 bt241.2)
def Qh.l0:Nat→List (S34)→Int→Int→Int→List Int→Int→Option ((List (S34))×Int)
 | 0,_,_,_,_,_,_=>none
 | k+1,x3,x4,x5,x6,x1000,x1001=>if x6 < x4 then ((Ql.f k x1000 x1001 x5).bind fun bt247=>((Qd.f k x1000 bt247.2.2.2.2.2.2 20).bind fun bt257=>(if bt257.1 > 0 then ((Qi.f k bt247.1 bt247.2.1 bt247.2.2.1 bt247.2.2.2.1 bt247.2.2.2.2.1 bt247.2.2.2.2.2.1).bind fun t259=>(Qh.j2 k x3 x4 x5 x6 (!t259) x1000 bt257.2 bt247.1 bt247.2.1 bt247.2.2.1 bt247.2.2.2.1 bt247.2.2.2.2.1 bt247.2.2.2.2.2.1)) else (Qh.j2 k x3 x4 x5 x6 false x1000 bt257.2 bt247.1 bt247.2.1 bt247.2.2.1 bt247.2.2.2.1 bt247.2.2.2.2.1 bt247.2.2.2.2.2.1)))) else (if x4 > 1 then ((Qd.f k x1000 x1001 30).bind fun bt243=>(if bt243.1=0 then (if 0 < (x3.length:Int) then (if 1 < (x3.length:Int) then (some ((x3.set (1:Int).toNat (⟨(Qa x3 0).f0,(Qa x3 0).f1,(Qa x3 0).f2,(Qa x3 0).f3,(Qa x3 0).f4,(Qa x3 0).f5⟩:S34)),bt243.2)) else (none)) else (none)) else (some (x3,bt243.2)))) else (some (x3,x1001)))
def Qh.j2:Nat→List (S34)→Int→Int→Int→Bool→List Int→Int→Bool→Bool→Int→Int→Int→List (S30)→Option ((List (S34))×Int)
 | 0,_,_,_,_,_,_,_,_,_,_,_,_,_=>none
 | k+1,x3,x4,x5,x6,x37,x1000,x1001,x257000,x257001,x257002,x257003,x257004,x257005=>if x37=true then ((Qg.f k x1000 x1001 x5 2).bind fun bt260=>(if x3.length < 2513169434916 then (if 0≤(wrap64 ((bt260.1.length:Int) - 1)) then (if (wrap64 ((bt260.1.length:Int) - 1)) < (bt260.1.length:Int) then ((Qd.f k x1000 bt260.2 4).bind fun bt268=>(Qh.l0 k (x3 ++ [(⟨false,false,255,0,0,bt260.1⟩:S34)]) x4 (wrap64 ((wrap64 (((Qb bt260.1 (wrap64 ((bt260.1.length:Int) - 1))).f0)+1))+(wrap64 ((wrap64 (Int.tdiv bt268.1 3)) * 2)))) (wrap64 (x6+1)) x1000 bt268.2)) else (none)) else (none)) else (none))) else (if x3.length < 2513169434916 then (if 0≤(wrap64 ((x257005.length:Int) - 1)) then (if (wrap64 ((x257005.length:Int) - 1)) < (x257005.length:Int) then ((Qd.f k x1000 x1001 4).bind fun bt274=>(Qh.l0 k (x3 ++ [(⟨x257000,x257001,x257002,x257003,x257004,x257005⟩:S34)]) x4 (wrap64 ((wrap64 (((Qb x257005 (wrap64 ((x257005.length:Int) - 1))).f0)+1))+(wrap64 ((wrap64 (Int.tdiv bt274.1 3)) * 2)))) (wrap64 (x6+1)) x1000 bt274.2)) else (none)) else (none)) else (none))
end
def Qh.f (k:Nat) (s0_0:List Int) (s0_1:Int):Option ((List (S34))×Int):=(some (([]:List (S34)):List (S34))).bind fun y228=>((Qd.f k s0_0 s0_1 5).bind fun bt231=>((Qd.f k s0_0 bt231.2 16).bind fun bt233=>(if bt233.1=0 then ((some (([0,8,9]:List Int):List Int)).bind fun y235=>((Qd.f k s0_0 bt233.2 3).bind fun bt238=>(if 0≤bt238.1 then (if bt238.1 < (y235.length:Int) then (Qh.j0 k y228 (rd y235 bt238.1) s0_0 bt238.2) else (none)) else (none)))) else (Qh.j0 k y228 (wrap64 (1+bt231.1)) s0_0 bt233.2))))
def Qh.T13:Bool×List (List Nat×List Nat):=(true,[([],[]),([0],[0]),([],[]),([2],[2]),([3],[3]),([4],[4]),([1,5],[1,5]),([6],[6]),([7],[7]),([8],[8]),([],[]),([10],[10]),([11],[11]),([12],[12]),([9,13],[9,13]),([14,11,0,1,2,3,4,5,6,7,8,9,10,11,12,13,14],[14])])
def Qh.B13:List Nat:=[0,1,0,4,12,28,63,127,255,511,0,1024,3072,7168,16383,32767]
theorem Qh.tab13:rtab .any (opsOf Try.f38 13)=Qh.T13:=by kernel_rfl
theorem Qh.bits13:waitsOk Qh.T13.2 Qh.B13=true:=by kernel_rfl
set_option maxHeartbeats 8000000 in
set_option maxRecDepth 100000 in
theorem Qh.calls (k:Nat) (g:Nat) (s0_0:List Int) (s0_1:Int) (r1:List (S34)) (r2:Int) (w0 w:World) (hI:Qc w0 w g s0_0 s0_1) (hB:Below w0.heap.size w0 w) (h:Qh.f k s0_0 s0_1=some (r1,r2)) :
  Calls Try.prog 38 #[.pointer (some ⟨g,0,none⟩)] w fun e w'=>∃ v0_:Value,e = .returned (v0_)∧Kd.N k34 34 w' w.heap.size (fun k_=>(w.heap.size≤k_)) v0_ r1∧Qc w0 w' g s0_0 r2∧Below w0.heap.size w0 w'∧KeepBut w w' g none:=by
 have hu34:=Try.underlying34;have HI0:=zzm hI;have HK:=zzm (KeepBut.refl w g none);have HL:=zzm hB.size;clear hI;have HW0:=zzm hB.size;have HB:=zzm hB;clear hB;have H:((some (([]:List (S34)):List (S34))).bind fun y228=>((Qd.f k s0_0 s0_1 5).bind fun bt231=>((Qd.f k s0_0 bt231.2 16).bind fun bt233=>(if bt233.1=0 then ((some (([0,8,9]:List Int):List Int)).bind fun y235=>((Qd.f k s0_0 bt233.2 3).bind fun bt238=>(if 0≤bt238.1 then (if bt238.1 < (y235.length:Int) then (Qh.j0 k y228 (rd y235 bt238.1) s0_0 bt238.2) else (none)) else (none)))) else (Qh.j0 k y228 (wrap64 (1+bt231.1)) s0_0 bt233.2)))))=some (r1,r2):=h;clear h;obtain ⟨y228,hy228⟩:∃ y_:List (S34),y_=(([]:List (S34))):=⟨_,rfl⟩;replace H:((Qd.f k s0_0 s0_1 5).bind fun bt231=>((Qd.f k s0_0 bt231.2 16).bind fun bt233=>(if bt233.1=0 then ((some (([0,8,9]:List Int):List Int)).bind fun y235=>((Qd.f k s0_0 bt233.2 3).bind fun bt238=>(if 0≤bt238.1 then (if bt238.1 < (y235.length:Int) then (Qh.j0 k y228 (rd y235 bt238.1) s0_0 bt238.2) else (none)) else (none)))) else (Qh.j0 k y228 (wrap64 (1+bt231.1)) s0_0 bt233.2))))=some (r1,r2):=by first|(rw [hy228];with_reducible exact H)|(have H2_:=(Option.bind_some _ _).symm.trans H;rw [hy228];with_reducible exact H2_)|(have H2_:=(Option.bind_some _ _).symm.trans H;with_reducible exact H2_)|with_reducible exact H|(rw [hy228];exact H)|exact H
 have Ny228:=zzm hy228;clear hy228;replace H:=Option.bind_eq_some_iff.mp H;obtain ⟨⟨t231,t232⟩,A20,H⟩:=H;replace H:((Qd.f k s0_0 t232 16).bind fun bt233=>(if bt233.1=0 then ((some (([0,8,9]:List Int):List Int)).bind fun y235=>((Qd.f k s0_0 bt233.2 3).bind fun bt238=>(if 0≤bt238.1 then (if bt238.1 < (y235.length:Int) then (Qh.j0 k y228 (rd y235 bt238.1) s0_0 bt238.2) else (none)) else (none)))) else (Qh.j0 k y228 (wrap64 (1+t231)) s0_0 bt233.2)))=some (r1,r2):=H;have A2:=zzm A20;clear A20;replace H:=Option.bind_eq_some_iff.mp H;obtain ⟨⟨t233,t234⟩,A30,H⟩:=H;replace H:(if t233=0 then ((some (([0,8,9]:List Int):List Int)).bind fun y235=>((Qd.f k s0_0 t234 3).bind fun bt238=>(if 0≤bt238.1 then (if bt238.1 < (y235.length:Int) then (Qh.j0 k y228 (rd y235 bt238.1) s0_0 bt238.2) else (none)) else (none)))) else (Qh.j0 k y228 (wrap64 (1+t231)) s0_0 t234))=some (r1,r2):=H;have A3:=zzm A30;clear A30;have HC4:=zzm H;clear H;go_enter Try.func38,Try.ntmps38;go_upto_if 14 with (first|((with_reducible refine gate_dst (N:=8) rfl ?_);refine Kd.N_lit k34 _ 34 ?hg (N':=8) ?hd (xs:=([]:List (S34))) (inner:=[]) (ok:=(fun k_=>(w.heap.size≤k_)∧k_≠g)) (okp:=(fun k_=>(w.heap.size≤k_)∧k_≠g)) ?hr ?hp (fun _ hk=>hk) ((show ∀ k_,w.heap.size≤k_→(fun k_=>(w.heap.size≤k_)∧k_≠g) k_ from fun k_ hk=>⟨(Nat.le_trans (keep_size (w:=w) (g:=g) (row:=none) (by repeat (first|(with_reducible first|exact HK.out|apply KeepBut.set_|apply keep_drewN|apply keep_drew|apply keep_alloc)|exact HK.out))) hk),Qc.fresh (by repeat (first|(with_reducible first|exact HI0.out|apply Qc.alloc|apply Qc.drewN|apply Qc.drew|apply Qc.set_1)|exact HI0.out)) k_ hk⟩) _ (Nat.le_refl _)) (Below.refl _ _) (Nat.le_refl _) (by simp) ?_;(case hd=>rfl);(case hg=>rfl);(case hr=>first|(go_simp;done)|(go_simp;rfl));(case hp=>exact (Reps.none _ _));intro v229 w5 ho6 hb hg_ hnew_;clear hg_ hnew_;(first|rw [← Ny228.out] at ho6|(simp only [Int.reduceToNat] at ho6;rw [← Ny228.out] at ho6));have n0_:=zzm (Kd.N_lower ho6 (keep_size (w:=w) (g:=g) (row:=none) (by repeat (first|(with_reducible first|exact HK.out|apply KeepBut.set_|apply keep_drewN|apply keep_drew|apply keep_alloc)|exact HK.out))));have n1_:=zzm (Qc.below (by repeat (first|(with_reducible first|exact HI0.out|apply Qc.alloc|apply Qc.drewN|apply Qc.drew|apply Qc.set_1)|exact HI0.out)) hb);have n2_:=zzm (KeepBut.trans (by repeat (first|(with_reducible first|exact HK.out|apply KeepBut.set_|apply keep_drewN|apply keep_drew|apply keep_alloc)|exact HK.out)) (KeepBut.of_below hb g none) (.inl rfl));have n3_:=zzm (zzp (by repeat (first|(with_reducible first|exact HB.out|apply zza|apply zzb|apply zzc|refine zzd ?_ (Qc.ge HI0.out))|exact HB.out)) hb);clear HI0 HK HB;have HO230:=n0_;have HI0:=n1_;have HK:=n2_;have HB:=n3_;clear n0_ n1_ n2_ n3_ hb ho6)|((with_reducible refine gate_callee (f:=54) rfl ?_);refine goesL_ (some 10) rfl rfl Try.func54 (by kernel_rfl) rfl #[.pointer (some ⟨g,0,none⟩),.int .i64 5] rfl zzM2 ?_;(with_reducible refine (Qd.calls k g s0_0 s0_1 5 t231 t232 w0 _ ?side1 ?side2 A2.out).mono ?_);(case side1=>repeat (first|(with_reducible first|exact HI0.out|apply Qc.alloc|apply Qc.drewN|apply Qc.drew|apply Qc.set_1)|exact HI0.out));(case side2=>repeat (first|(with_reducible first|exact HB.out|apply zza|apply zzb|apply zzc|refine zzd ?_ (Qc.ge HI0.out))|exact HB.out));rintro e w7 ⟨rfl,hi,hb,hk⟩;refine ⟨_,rfl,?_⟩;have n0_:=zzm (Kd.N_mono (Kd.N_keep (Kd.N_mono (ok:=fun k_=>(((w.heap.size≤k_))∧k_≠g)) (zzN HO230.out) (fun k_ hk_=>(⟨hk_,hk_.2⟩:_∧k_≠g))) hk (fun _ h=>h.2)) (fun _ h=>h.1));have n1_:=zzm (KeepBut.trans (by repeat (first|(with_reducible first|exact HK.out|apply KeepBut.set_|apply keep_drewN|apply keep_drew|apply keep_alloc)|exact HK.out)) hk (.inl rfl));have n2_:=zzm (hb);have n3_:=zzm (hi);clear HO230 HK HB HI0;have HO230:=n0_;have HK:=n1_;have HB:=n2_;have HI0:=n3_;clear n0_ n1_ n2_ n3_;(try clear hb);(try clear hb2);(try clear hk);(try clear hi))|((with_reducible refine gate_callee (f:=54) rfl ?_);refine goesL_ (some 13) rfl rfl Try.func54 (by kernel_rfl) rfl #[.pointer (some ⟨g,0,none⟩),.int .i64 16] rfl zzM2 ?_;(with_reducible refine (Qd.calls k g s0_0 t232 16 t233 t234 w0 _ ?side1 ?side2 A3.out).mono ?_);(case side1=>repeat (first|(with_reducible first|exact HI0.out|apply Qc.alloc|apply Qc.drewN|apply Qc.drew|apply Qc.set_1)|exact HI0.out));(case side2=>repeat (first|(with_reducible first|exact HB.out|apply zza|apply zzb|apply zzc|refine zzd ?_ (Qc.ge HI0.out))|exact HB.out));rintro e w8 ⟨rfl,hi,hb,hk⟩;refine ⟨_,rfl,?_⟩;have n0_:=zzm (Kd.N_mono (Kd.N_keep (Kd.N_mono (ok:=fun k_=>(((w.heap.size≤k_))∧k_≠g)) (zzN HO230.out) (fun k_ hk_=>(⟨hk_,hk_.2⟩:_∧k_≠g))) hk (fun _ h=>h.2)) (fun _ h=>h.1));have n1_:=zzm (KeepBut.trans (by repeat (first|(with_reducible first|exact HK.out|apply KeepBut.set_|apply keep_drewN|apply keep_drew|apply keep_alloc)|exact HK.out)) hk (.inl rfl));have n2_:=zzm (hb);have n3_:=zzm (hi);clear HO230 HK HB HI0;have HO230:=n0_;have HK:=n1_;have HB:=n2_;have HI0:=n3_;clear n0_ n1_ n2_ n3_;(try clear hb);(try clear hb2);(try clear hk);(try clear hi)))
 (try simp only [Act.put,zzq,zzr,zzs]);go_cut [4] (fun v4 wc=>∃ (kq:Nat) (x4_3:Int) (x1001_3:Int),v4 = .int .i64 x4_3∧Aside0 (Qh.j0 kq y228 x4_3 s0_0 x1001_3=some (r1,r2))∧Aside0 (kq≤k)∧Aside0 (Kd.N k34 34 wc w.heap.size (fun k_=>(w.heap.size≤k_)∧k_≠g) v229 y228)∧Aside0 (Qc w0 wc g s0_0 x1001_3)∧Aside0 (KeepBut w wc g none)∧Aside0 (Below w0.heap.size w0 wc))
 case first=>
  have H:=HC4.out;clear HC4;by_cases c9:t233=0
  ·
   rw [if_pos c9] at H;have c9b0:(t233==0)=true:=beq_iff_eq.mpr c9;have c9b1:(t233 != 0)=false:=bne_eq_false_iff_eq.mpr c9;clear c9
   (first|rw [c9b0]|(simp only [i64_w,i32_w];rw [c9b0])|skip);obtain ⟨y235,hy235⟩:∃ y_:List Int,y_=(([0,8,9]:List Int)):=⟨_,rfl⟩;replace H:((Qd.f k s0_0 t234 3).bind fun bt238=>(if 0≤bt238.1 then (if bt238.1 < (y235.length:Int) then (Qh.j0 k y228 (rd y235 bt238.1) s0_0 bt238.2) else (none)) else (none)))=some (r1,r2):=by first|(rw [hy235];with_reducible exact H)|(have H2_:=(Option.bind_some _ _).symm.trans H;rw [hy235];with_reducible exact H2_)|(have H2_:=(Option.bind_some _ _).symm.trans H;with_reducible exact H2_)|with_reducible exact H|(rw [hy235];exact H)|exact H
   have Ny235:=zzm hy235;clear hy235;replace H:=Option.bind_eq_some_iff.mp H;obtain ⟨⟨t238,t239⟩,A100,H⟩:=H;replace H:(if 0≤t238 then (if t238 < (y235.length:Int) then (Qh.j0 k y228 (rd y235 t238) s0_0 t239) else (none)) else (none))=some (r1,r2):=H;have A10:=zzm A100;clear A100;by_cases c11 : 0≤t238
   ·
    rw [if_pos c11] at H;have c11b0:decide (0≤t238)=true:=decide_eq_true c11;clear c11;by_cases c12:t238 < (y235.length:Int)
    ·
     rw [if_pos c12] at H;have c12b0:decide (t238 < (y235.length:Int))=true:=decide_eq_true c12;clear c12;have H':=zzm H;clear H;go_wp2_with (first|((with_reducible refine gate_dst (N:=15) rfl ?_);refine Kd.R_lit (Kd.int .i64) _ 3 ?hg (N:=15) ?hd (xs:=([0,8,9]:List Int)) (inner:=[.int .i64 0,.int .i64 8,.int .i64 9]) (ok:=fun _=>True) (okp:=fun _=>True) ?hr ?hp (fun _ hk=>hk) trivial (Below.refl _ _) (Nat.le_refl _) (by simp) ?_;(case hd=>rfl);(case hg=>rfl);(case hr=>first|(go_simp;done)|(go_simp;rfl));(case hp=>exact (Reps.one (show Kd.M (Kd.int .i64) _ _ _ 0 [.int .i64 0] from rfl) (Reps.one (show Kd.M (Kd.int .i64) _ _ _ 8 [.int .i64 8] from rfl) (Reps.one (show Kd.M (Kd.int .i64) _ _ _ 9 [.int .i64 9] from rfl) (Reps.none _ _)))));intro v236 w13 ho14 hb hg_ hnew_;clear hg_ hnew_;(first|rw [← Ny235.out] at ho14|(simp only [Int.reduceToNat] at ho14;rw [← Ny235.out] at ho14));have n0_:=zzm (Kd.N_elder' (zzN HO230.out) (Kd.R_base ho14) hb);have n1_:=zzm (Kd.R_lower (Kd.R_newM (M:=fun k_=>(w.heap.size≤k_)) ho14 (keep_size (w:=w) (g:=g) (row:=none) (by repeat (first|(with_reducible first|exact HK.out|apply KeepBut.set_|apply keep_drewN|apply keep_drew|apply keep_alloc)|exact HK.out))) (fun k_ h_=>h_)) (keep_size (w:=w) (g:=g) (row:=none) (by repeat (first|(with_reducible first|exact HK.out|apply KeepBut.set_|apply keep_drewN|apply keep_drew|apply keep_alloc)|exact HK.out))));have n2_:=zzm (Qc.below (by repeat (first|(with_reducible first|exact HI0.out|apply Qc.alloc|apply Qc.drewN|apply Qc.drew|apply Qc.set_1)|exact HI0.out)) hb);have n3_:=zzm (KeepBut.trans (by repeat (first|(with_reducible first|exact HK.out|apply KeepBut.set_|apply keep_drewN|apply keep_drew|apply keep_alloc)|exact HK.out)) (KeepBut.of_below hb g none) (.inl rfl));have n4_:=zzm (zzp (by repeat (first|(with_reducible first|exact HB.out|apply zza|apply zzb|apply zzc|refine zzd ?_ (Qc.ge HI0.out))|exact HB.out)) hb);clear HO230 HI0 HK HB;have HO230:=n0_;have HO237:=n1_;have HI0:=n2_;have HK:=n3_;have HB:=n4_;clear n0_ n1_ n2_ n3_ n4_ hb ho14)|((with_reducible refine gate_callee (f:=54) rfl ?_);refine goesL_ (some 17) rfl rfl Try.func54 (by kernel_rfl) rfl #[.pointer (some ⟨g,0,none⟩),.int .i64 3] rfl zzM2 ?_;(with_reducible refine (Qd.calls k g s0_0 t234 3 t238 t239 w0 _ ?side1 ?side2 A10.out).mono ?_);(case side1=>repeat (first|(with_reducible first|exact HI0.out|apply Qc.alloc|apply Qc.drewN|apply Qc.drew|apply Qc.set_1)|exact HI0.out));(case side2=>repeat (first|(with_reducible first|exact HB.out|apply zza|apply zzb|apply zzc|refine zzd ?_ (Qc.ge HI0.out))|exact HB.out));rintro e w15 ⟨rfl,hi,hb,hk⟩;refine ⟨_,rfl,?_⟩;have n0_:=zzm (Kd.N_mono (Kd.N_keep (Kd.N_mono (ok:=fun k_=>((((w.heap.size≤k_))∧k_≠g)∧some k_≠(v236:Value).ownBlock)) (zzN HO230.out) (fun k_ hk_=>(⟨hk_,hk_.1.2⟩:_∧k_≠g))) hk (fun _ h=>h.2)) (fun _ h=>h.1));have n1_:=zzm (Kd.R_mono (Kd.R_keep (Qc.apart (show Qc w0 _ g s0_0 t234 from by repeat (first|(with_reducible first|exact HI0.out|apply Qc.alloc|apply Qc.drewN|apply Qc.drew|apply Qc.set_1)|exact HI0.out)) (by (with_reducible repeat (first|apply Kd.R_alloc|apply Kd.R_drewN|apply Kd.R_drew));exact HO237.out) (by decide)) hk (fun _ h=>h.2)) (fun _ h=>h.1));have n2_:=zzm (KeepBut.trans (by repeat (first|(with_reducible first|exact HK.out|apply KeepBut.set_|apply keep_drewN|apply keep_drew|apply keep_alloc)|exact HK.out)) hk (.inl rfl));have n3_:=zzm (hb);have n4_:=zzm (hi);clear HO230 HO237 HK HB HI0;have HO230:=n0_;have HO237:=n1_;have HK:=n2_;have HB:=n3_;have HI0:=n4_;clear n0_ n1_ n2_ n3_ n4_;(try clear hb);(try clear hb2);(try clear hk);(try clear hi);obtain ⟨Ao16,co16,eo16⟩:=Kd.R_slice HO237.out;subst eo16;have p240 : 0≤(t238:Int):=zzt;have q240:t238 < (y235.length:Int):=zzt;obtain ⟨ad240,e240,hx240_0⟩:=Kd.at_int (Kd.R_reads' HO237.out).2.2 t238 p240 q240;cases e240;replace p240:=eq_true p240;replace q240:=eq_true q240));go_meet
     case rel=>exact ⟨_,(rd y235 t238),(t239),(by first|rfl|(simp;done)|(simp [*];done)),H',⟨by first|omega|exact Nat.le_refl _⟩,⟨by (with_reducible repeat (first|apply Kd.N_alloc|apply Kd.N_drewN|apply Kd.N_drew));exact Kd.N_mono HO230.out (fun _ hk=>⟨hk.1.1,hk.1.2⟩)⟩,⟨by repeat (first|(with_reducible first|exact HI0.out|apply Qc.alloc|apply Qc.drewN|apply Qc.drew|apply Qc.set_1)|exact HI0.out)⟩,⟨by repeat (first|(with_reducible first|exact HK.out|apply KeepBut.set_|apply keep_drewN|apply keep_drew|apply keep_alloc)|exact HK.out)⟩,⟨by repeat (first|(with_reducible first|exact HB.out|apply zza|apply zzb|apply zzc|refine zzd ?_ (Qc.ge HI0.out))|exact HB.out)⟩⟩
    ·
     rw [if_neg c12] at H;exact absurd H (by simp)
   ·
    rw [if_neg c11] at H;exact absurd H (by simp)
  ·
   rw [if_neg c9] at H;have c9b0:(t233==0)=false:=beq_eq_false_iff_ne.mpr c9;have c9b1:(t233 != 0)=true:=bne_iff_ne.mpr c9
   (first|rw [c9b0]|(simp only [i64_w,i32_w];rw [c9b0])|skip);have H':=zzm H;clear H;go_wp2;go_meet
   case rel=>exact ⟨_,(wrap64 (1+t231)),(t234),(by first|rfl|(simp;done)|(simp [*];done)),H',⟨by first|omega|exact Nat.le_refl _⟩,⟨by (with_reducible repeat (first|apply Kd.N_alloc|apply Kd.N_drewN|apply Kd.N_drew));exact HO230.out⟩,⟨by repeat (first|(with_reducible first|exact HI0.out|apply Qc.alloc|apply Qc.drewN|apply Qc.drew|apply Qc.set_1)|exact HI0.out)⟩,⟨by repeat (first|(with_reducible first|exact HK.out|apply KeepBut.set_|apply keep_drewN|apply keep_drew|apply keep_alloc)|exact HK.out)⟩,⟨by repeat (first|(with_reducible first|exact HB.out|apply zza|apply zzb|apply zzc|refine zzd ?_ (Qc.ge HI0.out))|exact HB.out)⟩⟩
 case rest=>
  clear HC4;try clear c1
  try clear p2
  try clear q2
  try clear hx2
  try clear c3
  try clear c5
  try clear p6
  try clear c9
  try clear c9b0
  try clear c9b1
  try clear c11
  try clear c11b0
  try clear c12
  try clear c12b0
  try clear hx240_0
  try clear p240
  try clear q240
  obtain ⟨kq,x4_3,x1001_3,rfl,HA,HJ3,HO_3,HI0,HK,HB⟩:=hcut;cases kq with
  | zero=>exact absurd HA.out (by simp [Qh.j0])
  | succ kj3=>
   have H:=HA.out;clear HA;simp only [Qh.j0] at H;replace H:=Option.bind_eq_some_iff.mp H;obtain ⟨⟨t241,t242⟩,A170,H⟩:=H;replace H:(Qh.l0 kj3 y228 x4_3 t241 0 s0_0 t242)=some (r1,r2):=H;have A17:=zzm A170;clear A170;have H':=zzm H;clear H;go_wp2_with (first|((with_reducible refine gate_callee (f:=54) rfl ?_);refine goesL_ (some 21) rfl rfl Try.func54 (by kernel_rfl) rfl #[.pointer (some ⟨g,0,none⟩),.int .i64 10] rfl zzM2 ?_;(with_reducible refine (Qd.calls kj3 g s0_0 x1001_3 10 t241 t242 w0 _ ?side1 ?side2 A17.out).mono ?_);(case side1=>repeat (first|(with_reducible first|exact HI0.out|apply Qc.alloc|apply Qc.drewN|apply Qc.drew|apply Qc.set_1)|exact HI0.out));(case side2=>repeat (first|(with_reducible first|exact HB.out|apply zza|apply zzb|apply zzc|refine zzd ?_ (Qc.ge HI0.out))|exact HB.out));rintro e w18 ⟨rfl,hi,hb,hk⟩;refine ⟨_,rfl,?_⟩;have n0_:=zzm (Kd.N_mono (Kd.N_keep (Kd.N_mono (ok:=fun k_=>(((w.heap.size≤k_))∧k_≠g)) (zzN HO_3.out) (fun k_ hk_=>(⟨hk_,hk_.2⟩:_∧k_≠g))) hk (fun _ h=>h.2)) (fun _ h=>h.1));have n1_:=zzm (KeepBut.trans (by repeat (first|(with_reducible first|exact HK.out|apply KeepBut.set_|apply keep_drewN|apply keep_drew|apply keep_alloc)|exact HK.out)) hk (.inl rfl));have n2_:=zzm (hb);have n3_:=zzm (hi);clear HO_3 HK HB HI0;have HO_3:=n0_;have HK:=n1_;have HB:=n2_;have HI0:=n3_;clear n0_ n1_ n2_ n3_;(try clear hb);(try clear hb2);(try clear hk);(try clear hi)));go_loopg [3,5,6] kj3 (fun kq v3 v5 v6 w'=>∃ (x3_2:List (S34)) (x5_2:Int) (x6_2:Int) (x1001_2:Int),v5 = .int .i64 x5_2∧v6 = .int .i64 x6_2∧Aside0 (Qh.l0 kq x3_2 x4_3 x5_2 x6_2 s0_0 x1001_2=some (r1,r2))∧Aside0 (kq≤kj3)∧Aside0 (Kd.N k34 34 w' w.heap.size (fun k_=>(w.heap.size≤k_)∧k_≠g) v3 x3_2)∧Aside0 (Qc w0 w' g s0_0 x1001_2)∧Aside0 (KeepBut w w' g none)∧Aside0 (Below w0.heap.size w0 w'))
   case atStart=>exact ⟨(y228),(t241),(0),(t242),(by first|rfl|(simp;done)|(simp [*];done)),(by first|rfl|(simp;done)|(simp [*];done)),H',⟨Nat.le_refl _⟩,⟨by (with_reducible repeat (first|apply Kd.N_alloc|apply Kd.N_drewN|apply Kd.N_drew));exact HO_3.out⟩,⟨by repeat (first|(with_reducible first|exact HI0.out|apply Qc.alloc|apply Qc.drewN|apply Qc.drew|apply Qc.set_1)|exact HI0.out)⟩,⟨by repeat (first|(with_reducible first|exact HK.out|apply KeepBut.set_|apply keep_drewN|apply keep_drew|apply keep_alloc)|exact HK.out)⟩,⟨by repeat (first|(with_reducible first|exact HB.out|apply zza|apply zzb|apply zzc|refine zzd ?_ (Qc.ge HI0.out))|exact HB.out)⟩⟩
   case round=>
    clear H';try clear c1
    try clear p2
    try clear q2
    try clear hx2
    try clear c3
    try clear c5
    try clear p6
    try clear c9
    try clear c9b0
    try clear c9b1
    try clear c11
    try clear c11b0
    try clear c12
    try clear c12b0
    try clear hx240_0
    try clear p2
    try clear p240
    try clear p6
    try clear q2
    try clear q240
    obtain ⟨x3_2,x5_2,x6_2,x1001_2,rfl,rfl,HA,HK2,HO_3,HI0,HK,HB⟩:=hrel;cases gk with
    | zero=>exact absurd HA.out (by simp [Qh.l0])
    | succ k2=>
     have H:=HA.out;clear HA;simp only [Qh.l0] at H;by_cases c19:x6_2 < x4_3
     ·
      rw [if_pos c19] at H;have c19b0:decide (x6_2 < x4_3)=true:=decide_eq_true c19;clear c19;replace H:=Option.bind_eq_some_iff.mp H;obtain ⟨⟨t247,t248,t249,t250,t251,t252,t255⟩,A200,H⟩:=H;replace H:((Qd.f k2 s0_0 t255 20).bind fun bt257=>(if bt257.1 > 0 then ((Qi.f k2 t247 t248 t249 t250 t251 t252).bind fun t259=>(Qh.j2 k2 x3_2 x4_3 x5_2 x6_2 (!t259) s0_0 bt257.2 t247 t248 t249 t250 t251 t252)) else (Qh.j2 k2 x3_2 x4_3 x5_2 x6_2 false s0_0 bt257.2 t247 t248 t249 t250 t251 t252)))=some (r1,r2):=H;have A20:=zzm A200;clear A200;have HC21:=zzm H;clear H;go_upto_region 10 with (first|((with_reducible refine gate_callee (f:=65) rfl ?_);refine goesL_ (some 29) rfl rfl Try.func65 (by kernel_rfl) rfl #[.pointer (some ⟨g,0,none⟩),.int .i64 x5_2] rfl zzM2 ?_;(with_reducible refine (Ql.calls k2 g s0_0 x1001_2 x5_2 t247 t248 t249 t250 t251 t252 t255 w0 _ ?side1 ?side2 A20.out).mono ?_);(case side1=>repeat (first|(with_reducible first|exact HI0.out|apply Qc.alloc|apply Qc.drewN|apply Qc.drew|apply Qc.set_1)|exact HI0.out));(case side2=>repeat (first|(with_reducible first|exact HB.out|apply zza|apply zzb|apply zzc|refine zzd ?_ (Qc.ge HI0.out))|exact HB.out));rintro e w22 ⟨v253,rfl,ho0,hi,hb,hk⟩;refine ⟨_,rfl,?_⟩;have n0_:=zzm (Kd.N_mono (Kd.N_told (Kd.N_oldK (Kd.N_mono (ok:=fun k_=>(((w.heap.size≤k_))∧k_≠g)) (zzN HO_3.out) (fun k_ hk_=>(⟨hk_,hk_.2⟩:_∧k_≠g))) hk) (by first|exact Kd.N_base ho0|exact Kd.S_base ho0)) (fun _ h_=>h_.1));have n1_:=zzm (Kd.N_lower (Kd.N_mono (ok':=fun k_=>(w.heap.size≤k_)∧some k_≠(u3:Value).ownBlock∧k_≠g) ho0 (fun k_ hk_=>⟨(Nat.le_trans (keep_size (w:=w) (g:=g) (row:=none) (by repeat (first|(with_reducible first|exact HK.out|apply KeepBut.set_|apply keep_drewN|apply keep_drew|apply keep_alloc)|exact HK.out))) hk_),(Kd.fresh' (Kd.N_lt (zzN HO_3.out)) k_ hk_),(Qc.fresh (by repeat (first|(with_reducible first|exact HI0.out|apply Qc.alloc|apply Qc.drewN|apply Qc.drew|apply Qc.set_1)|exact HI0.out)) k_ hk_)⟩)) (keep_size (w:=w) (g:=g) (row:=none) (by repeat (first|(with_reducible first|exact HK.out|apply KeepBut.set_|apply keep_drewN|apply keep_drew|apply keep_alloc)|exact HK.out))));have n2_:=zzm (KeepBut.trans (by repeat (first|(with_reducible first|exact HK.out|apply KeepBut.set_|apply keep_drewN|apply keep_drew|apply keep_alloc)|exact HK.out)) hk (.inl rfl));have n3_:=zzm (hb);have n4_:=zzm (hi);clear HO_3 HK HB HI0;have HO_3:=n0_;have HO254:=n1_;have HK:=n2_;have HB:=n3_;have HI0:=n4_;clear n0_ n1_ n2_ n3_ n4_;(try clear hb);(try clear hb2);(try clear hk);(try clear hi);(try clear ho0))|((with_reducible refine gate_dst (N:=7) rfl ?_);refine box_event ?hg (N:=7) ?hd (cs:=#[.bool false,.bool false,.int .i64 0,.int .i64 0,.int .i64 0,.slice none 0 0]) (t:=34) ?hr ?_;(case hd=>rfl);(case hg=>rfl);(case hr=>first|(go_simp;done)|(go_simp;rfl));intro gb256 hg w23 hbox hb;have n0_:=zzm (Kd.N_below (Kd.N_elderB (zzN HO_3.out) gb256 (Nat.le_of_eq hg.symm)) hb);have n1_:=zzm (Kd.N_below (Kd.N_elderB (zzN HO254.out) gb256 (Nat.le_of_eq hg.symm)) hb);have n2_:=zzm (Qc.below (by repeat (first|(with_reducible first|exact HI0.out|apply Qc.alloc|apply Qc.drewN|apply Qc.drew|apply Qc.set_1)|exact HI0.out)) hb);have n3_:=zzm (KeepBut.trans (by repeat (first|(with_reducible first|exact HK.out|apply KeepBut.set_|apply keep_drewN|apply keep_drew|apply keep_alloc)|exact HK.out)) (KeepBut.of_below hb g none) (.inl rfl));have n4_:=zzm (zzp (by repeat (first|(with_reducible first|exact HB.out|apply zza|apply zzb|apply zzc|refine zzd ?_ (Qc.ge HI0.out))|exact HB.out)) hb);have n5_:=zzm (hbox);have n6_:=zzm ((by rw [hg];exact (keep_size (w:=w) (g:=g) (row:=none) (by repeat (first|(with_reducible first|exact HK.out|apply KeepBut.set_|apply keep_drewN|apply keep_drew|apply keep_alloc)|exact HK.out))):w.heap.size≤gb256));have n7_:=zzm ((Nat.le_trans HW0.out (by rw [hg];exact (keep_size (w:=w) (g:=g) (row:=none) (by repeat (first|(with_reducible first|exact HK.out|apply KeepBut.set_|apply keep_drewN|apply keep_drew|apply keep_alloc)|exact HK.out))):w.heap.size≤gb256):w0.heap.size≤gb256));have n8_:=zzm ((by rw [hg];exact Nat.ne_of_lt (Qc.lt (show Qc w0 _ g s0_0 t255 from by repeat (first|(with_reducible first|exact HI0.out|apply Qc.alloc|apply Qc.drewN|apply Qc.drew|apply Qc.set_1)|exact HI0.out))):g≠gb256));have n9_:=zzm ((by rw [hg];exact Nat.ne_of_gt (Qc.lt (show Qc w0 _ g s0_0 t255 from by repeat (first|(with_reducible first|exact HI0.out|apply Qc.alloc|apply Qc.drewN|apply Qc.drew|apply Qc.set_1)|exact HI0.out))):gb256≠g));clear HO_3 HO254 HI0 HK HB;have HO_3:=n0_;have HO254:=n1_;have HI0:=n2_;have HK:=n3_;have HB:=n4_;have BK256:=n5_;have GW256:=n6_;have GE256:=n7_;have NB0_256:=n8_;have NB256_0:=n9_;clear n0_ n1_ n2_ n3_ n4_ n5_ n6_ n7_ n8_ n9_ hb hbox hg;have hnb24:=NB256_0.out;have hnc24:=NB0_256.out;obtain ⟨hcz25_0,hcz25_1,hcz25_2,hcz25_3,hcz25_4,hcz25_5,hfz25_0,hfz25_1,hfz25_2,hfz25_3,hfz25_4,hfz25_5⟩:=zzc6 BK256.out;obtain ⟨Ao26,co26,eo26⟩:=Kd.N_slice HO254.out;subst eo26))
      (try simp only [Act.put,zzq,zzr,zzs]);go_cut [37] (fun v37 wc=>∃ (kq:Nat) (x37_20:Bool) (x1001_20:Int),v37 = .bool x37_20∧Aside0 (Qh.j2 kq x3_2 x4_3 x5_2 x6_2 x37_20 s0_0 x1001_20 t247 t248 t249 t250 t251 t252=some (r1,r2))∧Aside0 (kq≤k2)∧Aside0 (Kd.N k34 34 wc w.heap.size (fun k_=>(w.heap.size≤k_)∧some k_≠((.slice Ao26 t252.length co26):Value).ownBlock∧k_≠gb256∧k_≠g) u3 x3_2)∧Aside0 (Kd.N k30 30 wc w.heap.size (fun k_=>(w.heap.size≤k_)∧some k_≠(u3:Value).ownBlock∧k_≠gb256∧k_≠g) (.slice Ao26 t252.length co26) t252)∧Aside0 (wc.heap[gb256]? = some (.cells #[.bool t247,.bool t248,.int .i64 t249,.int .i64 t250,.int .i64 t251,(.slice Ao26 t252.length co26)] 34 (0,0)))∧Aside0 (Qc w0 wc g s0_0 x1001_20)∧Aside0 (KeepBut w wc g none)∧Aside0 (Below w0.heap.size w0 wc))
      case first=>
       have H:=HC21.out;clear HC21;replace H:=Option.bind_eq_some_iff.mp H;obtain ⟨⟨t257,t258⟩,A270,H⟩:=H;replace H:(if t257 > 0 then ((Qi.f k2 t247 t248 t249 t250 t251 t252).bind fun t259=>(Qh.j2 k2 x3_2 x4_3 x5_2 x6_2 (!t259) s0_0 t258 t247 t248 t249 t250 t251 t252)) else (Qh.j2 k2 x3_2 x4_3 x5_2 x6_2 false s0_0 t258 t247 t248 t249 t250 t251 t252))=some (r1,r2):=H;have A27:=zzm A270;clear A270;by_cases c28:t257 > 0
       ·
        rw [if_pos c28] at H;have c28b0:decide (0 < t257)=true:=decide_eq_true c28;clear c28
        (first|rw [c28b0]|(simp only [i64_w,i32_w];rw [c28b0])|skip);replace H:=Option.bind_eq_some_iff.mp H;obtain ⟨t259,A290,H⟩:=H;replace H:(Qh.j2 k2 x3_2 x4_3 x5_2 x6_2 (!t259) s0_0 t258 t247 t248 t249 t250 t251 t252)=some (r1,r2):=H;have A29:=zzm A290;clear A290;have H':=zzm H;clear H;go_wp2_with (first|((with_reducible refine gate_callee (f:=54) rfl ?_);refine goesL_ (some 31) rfl rfl Try.func54 (by kernel_rfl) rfl #[.pointer (some ⟨g,0,none⟩),.int .i64 20] rfl zzM2 ?_;(with_reducible refine (Qd.calls k2 g s0_0 t255 20 t257 t258 w0 _ ?side1 ?side2 A27.out).mono ?_);(case side1=>repeat (first|(with_reducible first|exact HI0.out|apply Qc.alloc|apply Qc.drewN|apply Qc.drew|apply Qc.set_1|refine Qc.far ?_ NB0_256.out _)|exact HI0.out));(case side2=>repeat (first|(with_reducible first|exact HB.out|apply zza|apply zzb|apply zzc|refine zzd ?_ (Qc.ge HI0.out)|refine zzd ?_ GE256.out)|exact HB.out));rintro e w30 ⟨rfl,hi,hb,hk⟩;refine ⟨_,rfl,?_⟩;have n0_:=zzm (Kd.N_mono (Kd.N_keep (Kd.N_mono (ok:=fun k_=>(((((w.heap.size≤k_))∧k_≠g)∧some k_≠(.slice Ao26 t252.length co26:Value).ownBlock)∧k_≠gb256)) (zzN ((Kd.N_mono (Kd.N_far (p:=⟨gb256,5,none⟩) (Kd.N_far (p:=⟨gb256,4,none⟩) (Kd.N_far (p:=⟨gb256,3,none⟩) (Kd.N_far (p:=⟨gb256,2,none⟩) (Kd.N_far (p:=⟨gb256,1,none⟩) (Kd.N_far (p:=⟨gb256,0,none⟩) (Kd.N_mono HO_3.out (fun k_ hk=>(⟨hk,hk.2⟩:_∧k_≠gb256))) (fun _ hk=>hk.2) (.bool t247)) (fun _ hk=>hk.2) (.bool t248)) (fun _ hk=>hk.2) (.int .i64 t249)) (fun _ hk=>hk.2) (.int .i64 t250)) (fun _ hk=>hk.2) (.int .i64 t251)) (fun _ hk=>hk.2) (.slice Ao26 t252.length co26)) (fun _ h_=>h_.1)))) (fun k_ hk_=>(⟨hk_,hk_.1.1.2⟩:_∧k_≠g))) hk (fun _ h=>h.2)) (fun _ h=>h.1));have n1_:=zzm (Kd.N_mono (Kd.N_keep (Kd.N_mono (ok:=fun k_=>((((w.heap.size≤k_))∧(some k_≠(u3:Value).ownBlock∧k_≠g))∧k_≠gb256)) (zzN ((Kd.N_mono (Kd.N_far (p:=⟨gb256,5,none⟩) (Kd.N_far (p:=⟨gb256,4,none⟩) (Kd.N_far (p:=⟨gb256,3,none⟩) (Kd.N_far (p:=⟨gb256,2,none⟩) (Kd.N_far (p:=⟨gb256,1,none⟩) (Kd.N_far (p:=⟨gb256,0,none⟩) (Kd.N_mono HO254.out (fun k_ hk=>(⟨hk,hk.2⟩:_∧k_≠gb256))) (fun _ hk=>hk.2) (.bool t247)) (fun _ hk=>hk.2) (.bool t248)) (fun _ hk=>hk.2) (.int .i64 t249)) (fun _ hk=>hk.2) (.int .i64 t250)) (fun _ hk=>hk.2) (.int .i64 t251)) (fun _ hk=>hk.2) (.slice Ao26 t252.length co26)) (fun _ h_=>h_.1)))) (fun k_ hk_=>(⟨hk_,hk_.1.2.2⟩:_∧k_≠g))) hk (fun _ h=>h.2)) (fun _ h=>h.1));have n2_:=zzm (KeepBut.blk hk (g':=gb256) (o:=.cells #[.bool t247,.bool t248,.int .i64 t249,.int .i64 t250,.int .i64 t251,.slice Ao26 t252.length co26] 34 (0,0)) (by (with_reducible repeat (first|apply zzf|apply zzg|apply zze));refine zzi (cs:=#[.bool t247,.bool t248,.int .i64 t249,.int .i64 t250,.int .i64 t251,.slice none 0 0]) ?_ 5 _ rfl;(with_reducible repeat (first|apply zzf|apply zzg|apply zze));refine zzi (cs:=#[.bool t247,.bool t248,.int .i64 t249,.int .i64 t250,.int .i64 0,.slice none 0 0]) ?_ 4 _ rfl;(with_reducible repeat (first|apply zzf|apply zzg|apply zze));refine zzi (cs:=#[.bool t247,.bool t248,.int .i64 t249,.int .i64 0,.int .i64 0,.slice none 0 0]) ?_ 3 _ rfl;(with_reducible repeat (first|apply zzf|apply zzg|apply zze));refine zzi (cs:=#[.bool t247,.bool t248,.int .i64 0,.int .i64 0,.int .i64 0,.slice none 0 0]) ?_ 2 _ rfl;(with_reducible repeat (first|apply zzf|apply zzg|apply zze));refine zzi (cs:=#[.bool t247,.bool false,.int .i64 0,.int .i64 0,.int .i64 0,.slice none 0 0]) ?_ 1 _ rfl;(with_reducible repeat (first|apply zzf|apply zzg|apply zze));refine zzi (cs:=#[.bool false,.bool false,.int .i64 0,.int .i64 0,.int .i64 0,.slice none 0 0]) ?_ 0 _ rfl;(with_reducible repeat (first|apply zzf|apply zzg|apply zze));exact BK256.out) NB256_0.out (by simp));have n3_:=zzm (KeepBut.trans (by repeat (first|(with_reducible first|exact HK.out|apply KeepBut.set_|apply keep_drewN|apply keep_drew|apply keep_alloc|refine keep_far ?_ GW256.out _)|exact HK.out)) hk (.inl rfl));have n4_:=zzm (hb);have n5_:=zzm (hi);clear HO_3 HO254 BK256 HK HB HI0;have HO_3:=n0_;have HO254:=n1_;have BK256:=n2_;have HK:=n3_;have HB:=n4_;have HI0:=n5_;clear n0_ n1_ n2_ n3_ n4_ n5_;(try clear hb);(try clear hb2);(try clear hk);(try clear hi);have hnb31:=NB256_0.out;have hnc31:=NB0_256.out;obtain ⟨hcz32_0,hcz32_1,hcz32_2,hcz32_3,hcz32_4,hcz32_5,hfz32_0,hfz32_1,hfz32_2,hfz32_3,hfz32_4,hfz32_5⟩:=zzc6 BK256.out)|(go_at_call 66;(with_reducible refine (Qi.calls k2 t247 t248 t249 t250 t251 _ _ t252 t259 _ ?side1 ?side2 A29.out).mono ?_);(case side1=>repeat (first|exact (Kd.N_reads' HO254.out).2.2|(with_reducible refine Kd.C_alloc ?_ _)|(with_reducible refine Kd.C_drewN ?_ _)|(with_reducible refine Kd.C_drew ?_)));(case side2=>exact (Kd.N_reads' HO254.out).2.1);rintro e w33 ⟨rfl,hb⟩;have n0_:=zzm (Kd.N_below (zzN HO_3.out) hb);have n1_:=zzm (Kd.N_below (zzN HO254.out) hb);have n2_:=zzm (Qc.below (by repeat (first|(with_reducible first|exact HI0.out|apply Qc.alloc|apply Qc.drewN|apply Qc.drew|apply Qc.set_1|refine Qc.far ?_ NB0_256.out _)|exact HI0.out)) hb);have n3_:=zzm (zzh (g:=gb256) (o:=.cells #[.bool t247,.bool t248,.int .i64 t249,.int .i64 t250,.int .i64 t251,.slice Ao26 t252.length co26] 34 (0,0)) (zzE BK256.out) hb);have n4_:=zzm (KeepBut.trans (by repeat (first|(with_reducible first|exact HK.out|apply KeepBut.set_|apply keep_drewN|apply keep_drew|apply keep_alloc|refine keep_far ?_ GW256.out _)|exact HK.out)) (KeepBut.of_below hb g none) (.inl rfl));have n5_:=zzm (zzp (by repeat (first|(with_reducible first|exact HB.out|apply zza|apply zzb|apply zzc|refine zzd ?_ (Qc.ge HI0.out)|refine zzd ?_ GE256.out)|exact HB.out)) hb);clear HO_3 HO254 HI0 BK256 HK HB;have HO_3:=n0_;have HO254:=n1_;have HI0:=n2_;have BK256:=n3_;have HK:=n4_;have HB:=n5_;clear n0_ n1_ n2_ n3_ n4_ n5_;(try clear hb);(try clear hb2);(try clear hk);(try clear hi)));go_meet
        case rel=>exact ⟨_,(!t259),(t258),(by first|rfl|(simp;done)|(simp [*];done)),H',⟨by have:=HJ3.out;have:=HK2.out;first|omega|exact Nat.le_refl _⟩,⟨by (with_reducible repeat (first|apply Kd.N_alloc|apply Kd.N_drewN|apply Kd.N_drew));exact Kd.N_mono HO_3.out (fun _ hk=>⟨hk.1.1.1,⟨hk.1.2,⟨hk.2,hk.1.1.2⟩⟩⟩)⟩,⟨by (with_reducible repeat (first|apply Kd.N_alloc|apply Kd.N_drewN|apply Kd.N_drew));exact Kd.N_mono HO254.out (fun _ hk=>⟨hk.1.1,⟨hk.1.2.1,⟨hk.2,hk.1.2.2⟩⟩⟩)⟩,⟨by (with_reducible repeat (first|apply zzf|apply zzg|apply zze));exact BK256.out⟩,⟨by repeat (first|(with_reducible first|exact HI0.out|apply Qc.alloc|apply Qc.drewN|apply Qc.drew|apply Qc.set_1|refine Qc.far ?_ NB0_256.out _)|exact HI0.out)⟩,⟨by repeat (first|(with_reducible first|exact HK.out|apply KeepBut.set_|apply keep_drewN|apply keep_drew|apply keep_alloc|refine keep_far ?_ GW256.out _)|exact HK.out)⟩,⟨by repeat (first|(with_reducible first|exact HB.out|apply zza|apply zzb|apply zzc|refine zzd ?_ (Qc.ge HI0.out)|refine zzd ?_ GE256.out)|exact HB.out)⟩⟩
       ·
        rw [if_neg c28] at H;have c28b0:decide (0 < t257)=false:=decide_eq_false c28;clear c28
        (first|rw [c28b0]|(simp only [i64_w,i32_w];rw [c28b0])|skip);have H':=zzm H;clear H;go_wp2_with (first|((with_reducible refine gate_callee (f:=54) rfl ?_);refine goesL_ (some 31) rfl rfl Try.func54 (by kernel_rfl) rfl #[.pointer (some ⟨g,0,none⟩),.int .i64 20] rfl zzM2 ?_;(with_reducible refine (Qd.calls k2 g s0_0 t255 20 t257 t258 w0 _ ?side1 ?side2 A27.out).mono ?_);(case side1=>repeat (first|(with_reducible first|exact HI0.out|apply Qc.alloc|apply Qc.drewN|apply Qc.drew|apply Qc.set_1|refine Qc.far ?_ NB0_256.out _)|exact HI0.out));(case side2=>repeat (first|(with_reducible first|exact HB.out|apply zza|apply zzb|apply zzc|refine zzd ?_ (Qc.ge HI0.out)|refine zzd ?_ GE256.out)|exact HB.out));rintro e w34 ⟨rfl,hi,hb,hk⟩;refine ⟨_,rfl,?_⟩;have n0_:=zzm (Kd.N_mono (Kd.N_keep (Kd.N_mono (ok:=fun k_=>(((((w.heap.size≤k_))∧k_≠g)∧some k_≠(.slice Ao26 t252.length co26:Value).ownBlock)∧k_≠gb256)) (zzN ((Kd.N_mono (Kd.N_far (p:=⟨gb256,5,none⟩) (Kd.N_far (p:=⟨gb256,4,none⟩) (Kd.N_far (p:=⟨gb256,3,none⟩) (Kd.N_far (p:=⟨gb256,2,none⟩) (Kd.N_far (p:=⟨gb256,1,none⟩) (Kd.N_far (p:=⟨gb256,0,none⟩) (Kd.N_mono HO_3.out (fun k_ hk=>(⟨hk,hk.2⟩:_∧k_≠gb256))) (fun _ hk=>hk.2) (.bool t247)) (fun _ hk=>hk.2) (.bool t248)) (fun _ hk=>hk.2) (.int .i64 t249)) (fun _ hk=>hk.2) (.int .i64 t250)) (fun _ hk=>hk.2) (.int .i64 t251)) (fun _ hk=>hk.2) (.slice Ao26 t252.length co26)) (fun _ h_=>h_.1)))) (fun k_ hk_=>(⟨hk_,hk_.1.1.2⟩:_∧k_≠g))) hk (fun _ h=>h.2)) (fun _ h=>h.1));have n1_:=zzm (Kd.N_mono (Kd.N_keep (Kd.N_mono (ok:=fun k_=>((((w.heap.size≤k_))∧(some k_≠(u3:Value).ownBlock∧k_≠g))∧k_≠gb256)) (zzN ((Kd.N_mono (Kd.N_far (p:=⟨gb256,5,none⟩) (Kd.N_far (p:=⟨gb256,4,none⟩) (Kd.N_far (p:=⟨gb256,3,none⟩) (Kd.N_far (p:=⟨gb256,2,none⟩) (Kd.N_far (p:=⟨gb256,1,none⟩) (Kd.N_far (p:=⟨gb256,0,none⟩) (Kd.N_mono HO254.out (fun k_ hk=>(⟨hk,hk.2⟩:_∧k_≠gb256))) (fun _ hk=>hk.2) (.bool t247)) (fun _ hk=>hk.2) (.bool t248)) (fun _ hk=>hk.2) (.int .i64 t249)) (fun _ hk=>hk.2) (.int .i64 t250)) (fun _ hk=>hk.2) (.int .i64 t251)) (fun _ hk=>hk.2) (.slice Ao26 t252.length co26)) (fun _ h_=>h_.1)))) (fun k_ hk_=>(⟨hk_,hk_.1.2.2⟩:_∧k_≠g))) hk (fun _ h=>h.2)) (fun _ h=>h.1));have n2_:=zzm (KeepBut.blk hk (g':=gb256) (o:=.cells #[.bool t247,.bool t248,.int .i64 t249,.int .i64 t250,.int .i64 t251,.slice Ao26 t252.length co26] 34 (0,0)) (by (with_reducible repeat (first|apply zzf|apply zzg|apply zze));refine zzi (cs:=#[.bool t247,.bool t248,.int .i64 t249,.int .i64 t250,.int .i64 t251,.slice none 0 0]) ?_ 5 _ rfl;(with_reducible repeat (first|apply zzf|apply zzg|apply zze));refine zzi (cs:=#[.bool t247,.bool t248,.int .i64 t249,.int .i64 t250,.int .i64 0,.slice none 0 0]) ?_ 4 _ rfl;(with_reducible repeat (first|apply zzf|apply zzg|apply zze));refine zzi (cs:=#[.bool t247,.bool t248,.int .i64 t249,.int .i64 0,.int .i64 0,.slice none 0 0]) ?_ 3 _ rfl;(with_reducible repeat (first|apply zzf|apply zzg|apply zze));refine zzi (cs:=#[.bool t247,.bool t248,.int .i64 0,.int .i64 0,.int .i64 0,.slice none 0 0]) ?_ 2 _ rfl;(with_reducible repeat (first|apply zzf|apply zzg|apply zze));refine zzi (cs:=#[.bool t247,.bool false,.int .i64 0,.int .i64 0,.int .i64 0,.slice none 0 0]) ?_ 1 _ rfl;(with_reducible repeat (first|apply zzf|apply zzg|apply zze));refine zzi (cs:=#[.bool false,.bool false,.int .i64 0,.int .i64 0,.int .i64 0,.slice none 0 0]) ?_ 0 _ rfl;(with_reducible repeat (first|apply zzf|apply zzg|apply zze));exact BK256.out) NB256_0.out (by simp));have n3_:=zzm (KeepBut.trans (by repeat (first|(with_reducible first|exact HK.out|apply KeepBut.set_|apply keep_drewN|apply keep_drew|apply keep_alloc|refine keep_far ?_ GW256.out _)|exact HK.out)) hk (.inl rfl));have n4_:=zzm (hb);have n5_:=zzm (hi);clear HO_3 HO254 BK256 HK HB HI0;have HO_3:=n0_;have HO254:=n1_;have BK256:=n2_;have HK:=n3_;have HB:=n4_;have HI0:=n5_;clear n0_ n1_ n2_ n3_ n4_ n5_;(try clear hb);(try clear hb2);(try clear hk);(try clear hi)));go_meet
        case rel=>exact ⟨_,(false),(t258),(by first|rfl|(simp;done)|(simp [*];done)),H',⟨by have:=HJ3.out;have:=HK2.out;first|omega|exact Nat.le_refl _⟩,⟨by (with_reducible repeat (first|apply Kd.N_alloc|apply Kd.N_drewN|apply Kd.N_drew));exact Kd.N_mono HO_3.out (fun _ hk=>⟨hk.1.1.1,⟨hk.1.2,⟨hk.2,hk.1.1.2⟩⟩⟩)⟩,⟨by (with_reducible repeat (first|apply Kd.N_alloc|apply Kd.N_drewN|apply Kd.N_drew));exact Kd.N_mono HO254.out (fun _ hk=>⟨hk.1.1,⟨hk.1.2.1,⟨hk.2,hk.1.2.2⟩⟩⟩)⟩,⟨by (with_reducible repeat (first|apply zzf|apply zzg|apply zze));exact BK256.out⟩,⟨by repeat (first|(with_reducible first|exact HI0.out|apply Qc.alloc|apply Qc.drewN|apply Qc.drew|apply Qc.set_1|refine Qc.far ?_ NB0_256.out _)|exact HI0.out)⟩,⟨by repeat (first|(with_reducible first|exact HK.out|apply KeepBut.set_|apply keep_drewN|apply keep_drew|apply keep_alloc|refine keep_far ?_ GW256.out _)|exact HK.out)⟩,⟨by repeat (first|(with_reducible first|exact HB.out|apply zza|apply zzb|apply zzc|refine zzd ?_ (Qc.ge HI0.out)|refine zzd ?_ GE256.out)|exact HB.out)⟩⟩
      case rest=>
       clear HC21;try clear c1
       try clear c2
       try clear p2
       try clear q2
       try clear hx2
       try clear c3
       try clear c5
       try clear c6
       try clear p6
       try clear c9
       try clear c9b0
       try clear c9b1
       try clear c11
       try clear c11b0
       try clear c12
       try clear c12b0
       try clear c19
       try clear c19b0
       try clear c24
       try clear p24
       try clear q24
       try clear hx24
       try clear c28
       try clear c28b0
       try clear c31
       try clear hcz25_0
       try clear hcz25_1
       try clear hcz25_2
       try clear hcz25_3
       try clear hcz25_4
       try clear hcz25_5
       try clear hcz32_0
       try clear hcz32_1
       try clear hcz32_2
       try clear hcz32_3
       try clear hcz32_4
       try clear hcz32_5
       try clear hfz25_0
       try clear hfz25_1
       try clear hfz25_2
       try clear hfz25_3
       try clear hfz25_4
       try clear hfz25_5
       try clear hfz32_0
       try clear hfz32_1
       try clear hfz32_2
       try clear hfz32_3
       try clear hfz32_4
       try clear hfz32_5
       try clear hx240_0
       try clear p2
       try clear p240
       try clear p6
       try clear q2
       try clear q240
       obtain ⟨kq,x37_20,x1001_20,rfl,HA,HJ20,HO_3,HO_257005,BK256,HI0,HK,HB⟩:=hcut;cases kq with
       | zero=>exact absurd HA.out (by simp [Qh.j2])
       | succ kj20=>
        have H:=HA.out;clear HA;simp only [Qh.j2] at H;by_cases c35:x37_20=true
        ·
         subst c35;have H1:((Qg.f kj20 s0_0 x1001_20 x5_2 2).bind fun bt260=>(if x3_2.length < 2513169434916 then (if 0≤(wrap64 ((bt260.1.length:Int) - 1)) then (if (wrap64 ((bt260.1.length:Int) - 1)) < (bt260.1.length:Int) then ((Qd.f kj20 s0_0 bt260.2 4).bind fun bt268=>(Qh.l0 kj20 (x3_2 ++ [(⟨false,false,255,0,0,bt260.1⟩:S34)]) x4_3 (wrap64 ((wrap64 (((Qb bt260.1 (wrap64 ((bt260.1.length:Int) - 1))).f0)+1))+(wrap64 ((wrap64 (Int.tdiv bt268.1 3)) * 2)))) (wrap64 (x6_2+1)) s0_0 bt268.2)) else (none)) else (none)) else (none)))=some (r1,r2):=by rw [if_pos rfl] at H;exact H
         clear H;have H:=H1;clear H1;replace H:=Option.bind_eq_some_iff.mp H;obtain ⟨⟨t260,t263⟩,A360,H⟩:=H;replace H:(if x3_2.length < 2513169434916 then (if 0≤(wrap64 ((t260.length:Int) - 1)) then (if (wrap64 ((t260.length:Int) - 1)) < (t260.length:Int) then ((Qd.f kj20 s0_0 t263 4).bind fun bt268=>(Qh.l0 kj20 (x3_2 ++ [(⟨false,false,255,0,0,t260⟩:S34)]) x4_3 (wrap64 ((wrap64 (((Qb t260 (wrap64 ((t260.length:Int) - 1))).f0)+1))+(wrap64 ((wrap64 (Int.tdiv bt268.1 3)) * 2)))) (wrap64 (x6_2+1)) s0_0 bt268.2)) else (none)) else (none)) else (none))=some (r1,r2):=H;have A36:=zzm A360;clear A360;by_cases c37:x3_2.length < 2513169434916
         ·
          rw [if_pos c37] at H;have LMc37:=zzm c37;clear c37;obtain ⟨y264,hy264⟩:∃ y_:List (S34),y_=(x3_2 ++ [(⟨false,false,255,0,0,t260⟩:S34)]):=⟨_,rfl⟩;replace H:(if 0≤(wrap64 ((t260.length:Int) - 1)) then (if (wrap64 ((t260.length:Int) - 1)) < (t260.length:Int) then ((Qd.f kj20 s0_0 t263 4).bind fun bt268=>(Qh.l0 kj20 y264 x4_3 (wrap64 ((wrap64 (((Qb t260 (wrap64 ((t260.length:Int) - 1))).f0)+1))+(wrap64 ((wrap64 (Int.tdiv bt268.1 3)) * 2)))) (wrap64 (x6_2+1)) s0_0 bt268.2)) else (none)) else (none))=some (r1,r2):=by first|(rw [hy264];with_reducible exact H)|(have H2_:=(Option.bind_some _ _).symm.trans H;rw [hy264];with_reducible exact H2_)|(have H2_:=(Option.bind_some _ _).symm.trans H;with_reducible exact H2_)|with_reducible exact H|(rw [hy264];exact H)|exact H
          have Ny264:=zzm hy264;clear hy264;obtain ⟨ji38,hji38⟩:∃ j_:Int,(wrap64 ((t260.length:Int) - 1))=j_:=⟨_,rfl⟩;replace H:(if 0≤(ji38) then (if (ji38) < (t260.length:Int) then ((Qd.f kj20 s0_0 t263 4).bind fun bt268=>(Qh.l0 kj20 y264 x4_3 (wrap64 ((wrap64 (((Qb t260 (ji38)).f0)+1))+(wrap64 ((wrap64 (Int.tdiv bt268.1 3)) * 2)))) (wrap64 (x6_2+1)) s0_0 bt268.2)) else (none)) else (none))=some (r1,r2):=by first|(rw [hji38] at H;exact H)|(simp only [hji38] at H ⊢;exact H)
          (try rw [hji38] at A36);have hji38w:(IntKind.i64.wrap ((t260.length:Int) - 1))=ji38:=(i64_w _).trans hji38;by_cases c39 : 0≤(ji38)
          ·
           rw [if_pos c39] at H;have c39b0:decide (0≤(ji38))=true:=decide_eq_true c39;clear c39;by_cases c40:(ji38) < (t260.length:Int)
           ·
            rw [if_pos c40] at H;have c40b0:decide ((ji38) < (t260.length:Int))=true:=decide_eq_true c40;clear c40;replace H:=Option.bind_eq_some_iff.mp H;obtain ⟨⟨t268,t269⟩,A410,H⟩:=H;replace H:(Qh.l0 kj20 y264 x4_3 (wrap64 ((wrap64 (((Qb t260 (ji38)).f0)+1))+(wrap64 ((wrap64 (Int.tdiv t268 3)) * 2)))) (wrap64 (x6_2+1)) s0_0 t269)=some (r1,r2):=H;have A41:=zzm A410;clear A410;have H':=zzm H;clear H;try go_wp2_with (first|((with_reducible refine gate_callee (f:=67) rfl ?_);refine goesL_ (some 40) rfl rfl Try.func67 (by kernel_rfl) rfl #[.pointer (some ⟨g,0,none⟩),.int .i64 x5_2,.int .i64 2] rfl zzM2 ?_;(with_reducible refine (Qg.calls kj20 g s0_0 x1001_20 x5_2 2 t260 t263 w0 _ ?side1 ?side2 A36.out).mono ?_);(case side1=>repeat (first|(with_reducible first|exact HI0.out|apply Qc.alloc|apply Qc.drewN|apply Qc.drew|apply Qc.set_1|refine Qc.far ?_ NB0_256.out _)|exact HI0.out));(case side2=>repeat (first|(with_reducible first|exact HB.out|apply zza|apply zzb|apply zzc|refine zzd ?_ (Qc.ge HI0.out)|refine zzd ?_ GE256.out)|exact HB.out));rintro e w42 ⟨v261,rfl,ho0,hi,hb,hk⟩;refine ⟨_,rfl,?_⟩;have n0_:=zzm (Kd.N_mono (Kd.N_told (Kd.N_oldK (Kd.N_mono (ok:=fun k_=>(((w.heap.size≤k_))∧(some k_≠(.slice Ao26 t252.length co26:Value).ownBlock∧(k_≠gb256∧k_≠g)))) (zzN HO_3.out) (fun k_ hk_=>(⟨hk_,hk_.2.2.2⟩:_∧k_≠g))) hk) (by first|exact Kd.N_base ho0|exact Kd.S_base ho0)) (fun _ h_=>h_.1));have n1_:=zzm (Kd.N_mono (Kd.N_told (Kd.N_oldK (Kd.N_mono (ok:=fun k_=>(((w.heap.size≤k_))∧(some k_≠(u3:Value).ownBlock∧(k_≠gb256∧k_≠g)))) (zzN HO_257005.out) (fun k_ hk_=>(⟨hk_,hk_.2.2.2⟩:_∧k_≠g))) hk) (by first|exact Kd.N_base ho0|exact Kd.S_base ho0)) (fun _ h_=>h_.1));have n2_:=zzm (KeepBut.blk hk (g':=gb256) (o:=.cells #[.bool t247,.bool t248,.int .i64 t249,.int .i64 t250,.int .i64 t251,.slice Ao26 t252.length co26] 34 (0,0)) (zzE BK256.out) NB256_0.out (by simp));have n3_:=zzm (Kd.N_lower (Kd.N_mono (ok':=fun k_=>(w.heap.size≤k_)∧some k_≠(u3:Value).ownBlock∧some k_≠(.slice Ao26 t252.length co26:Value).ownBlock∧k_≠gb256∧k_≠g) (Kd.S_N (Kd.S_bound ho0)) (fun k_ hk_=>⟨(Nat.le_trans (keep_size (w:=w) (g:=g) (row:=none) (by repeat (first|(with_reducible first|exact HK.out|apply KeepBut.set_|apply keep_drewN|apply keep_drew|apply keep_alloc|refine keep_far ?_ GW256.out _)|exact HK.out))) hk_.2.1),(Kd.fresh' (Kd.N_lt (zzN HO_3.out)) k_ hk_.2.1),(Kd.fresh' (Kd.N_lt (zzN HO_257005.out)) k_ hk_.2.1),(Kd.freshB (g:=gb256) (o:=.cells #[.bool t247,.bool t248,.int .i64 t249,.int .i64 t250,.int .i64 t251,.slice Ao26 t252.length co26] 34 (0,0)) (zzE BK256.out) k_ hk_.2.1),(Qc.fresh (by repeat (first|(with_reducible first|exact HI0.out|apply Qc.alloc|apply Qc.drewN|apply Qc.drew|apply Qc.set_1|refine Qc.far ?_ NB0_256.out _)|exact HI0.out)) k_ hk_.2.1)⟩)) (keep_size (w:=w) (g:=g) (row:=none) (by repeat (first|(with_reducible first|exact HK.out|apply KeepBut.set_|apply keep_drewN|apply keep_drew|apply keep_alloc|refine keep_far ?_ GW256.out _)|exact HK.out))));have n4_:=zzm (KeepBut.trans (by repeat (first|(with_reducible first|exact HK.out|apply KeepBut.set_|apply keep_drewN|apply keep_drew|apply keep_alloc|refine keep_far ?_ GW256.out _)|exact HK.out)) hk (.inl rfl));have n5_:=zzm (hb);have n6_:=zzm (hi);clear HO_3 HO_257005 BK256 HK HB HI0;have HO_3:=n0_;have HO_257005:=n1_;have BK256:=n2_;have HO262:=n3_;have HK:=n4_;have HB:=n5_;have HI0:=n6_;clear n0_ n1_ n2_ n3_ n4_ n5_ n6_;(try clear hb);(try clear hb2);(try clear hk);(try clear hi);(try clear ho0);obtain ⟨Ao43,co43,eo43⟩:=Kd.N_slice HO262.out;subst eo43;have hnb44:=NB256_0.out;have hnc44:=NB0_256.out;obtain ⟨hcz45_0,hcz45_1,hcz45_2,hcz45_3,hcz45_4,hcz45_5,hfz45_0,hfz45_1,hfz45_2,hfz45_3,hfz45_4,hfz45_5⟩:=zzc6 BK256.out)|((with_reducible refine gate_store (t:=34) (p:=7) rfl ?_);refine store_event (t:=34) (p:=7) (v:=?vo_w46) (w1:=((((((w42.setCell ⟨gb256,0,none⟩ (.bool false)).setCell ⟨gb256,1,none⟩ (.bool false)).setCell ⟨gb256,2,none⟩ (.int .i64 255)).setCell ⟨gb256,3,none⟩ (.int .i64 0)).setCell ⟨gb256,4,none⟩ (.int .i64 0)).setCell ⟨gb256,5,none⟩ (.slice Ao43 t260.length co43))) ?hg ?ho ?hn ?hr ?_;(case ho=>rfl);(case hg=>rfl);(case hn=>rfl);(case hr=>first|(go_simp;done)|(go_simp;rfl));intro w46 hw;have n0_:Aside0 (Kd.N k34 34 w46 w.heap.size (fun k_=>(w.heap.size≤k_)∧some k_≠(.slice Ao26 t252.length co26:Value).ownBlock∧some k_≠(.slice Ao43 t260.length co43:Value).ownBlock∧k_≠gb256∧k_≠g) u3 x3_2):=⟨(by rw [hw];exact (zzN (Kd.N_mono (Kd.N_far (p:=⟨gb256,5,none⟩) (Kd.N_far (p:=⟨gb256,4,none⟩) (Kd.N_far (p:=⟨gb256,3,none⟩) (Kd.N_far (p:=⟨gb256,2,none⟩) (Kd.N_far (p:=⟨gb256,1,none⟩) (Kd.N_far (p:=⟨gb256,0,none⟩) (Kd.N_mono HO_3.out (fun k_ hk=>(⟨hk,hk.1.2.2.1⟩:_∧k_≠gb256))) (fun _ hk=>hk.2) (.bool false)) (fun _ hk=>hk.2) (.bool false)) (fun _ hk=>hk.2) (.int .i64 255)) (fun _ hk=>hk.2) (.int .i64 0)) (fun _ hk=>hk.2) (.int .i64 0)) (fun _ hk=>hk.2) (.slice Ao43 t260.length co43)) (fun _ hk=>⟨hk.1.1.1,⟨hk.1.1.2.1,⟨hk.1.2,⟨hk.1.1.2.2.1,hk.1.1.2.2.2⟩⟩⟩⟩))))⟩;have n1_:Aside0 (Kd.N k30 30 w46 w.heap.size (fun k_=>(w.heap.size≤k_)∧some k_≠(u3:Value).ownBlock∧some k_≠(.slice Ao43 t260.length co43:Value).ownBlock∧k_≠gb256∧k_≠g) (.slice Ao26 t252.length co26) t252):=⟨(by rw [hw];exact (zzN (Kd.N_mono (Kd.N_far (p:=⟨gb256,5,none⟩) (Kd.N_far (p:=⟨gb256,4,none⟩) (Kd.N_far (p:=⟨gb256,3,none⟩) (Kd.N_far (p:=⟨gb256,2,none⟩) (Kd.N_far (p:=⟨gb256,1,none⟩) (Kd.N_far (p:=⟨gb256,0,none⟩) (Kd.N_mono HO_257005.out (fun k_ hk=>(⟨hk,hk.1.2.2.1⟩:_∧k_≠gb256))) (fun _ hk=>hk.2) (.bool false)) (fun _ hk=>hk.2) (.bool false)) (fun _ hk=>hk.2) (.int .i64 255)) (fun _ hk=>hk.2) (.int .i64 0)) (fun _ hk=>hk.2) (.int .i64 0)) (fun _ hk=>hk.2) (.slice Ao43 t260.length co43)) (fun _ hk=>⟨hk.1.1.1,⟨hk.1.1.2.1,⟨hk.1.2,⟨hk.1.1.2.2.1,hk.1.1.2.2.2⟩⟩⟩⟩))))⟩;have n2_:Aside0 (Kd.N k30 30 w46 w.heap.size (fun k_=>(w.heap.size≤k_)∧some k_≠(u3:Value).ownBlock∧some k_≠(.slice Ao26 t252.length co26:Value).ownBlock∧k_≠gb256∧k_≠g) (.slice Ao43 t260.length co43) t260):=⟨(by rw [hw];exact (zzN (Kd.N_mono (Kd.N_far (p:=⟨gb256,5,none⟩) (Kd.N_far (p:=⟨gb256,4,none⟩) (Kd.N_far (p:=⟨gb256,3,none⟩) (Kd.N_far (p:=⟨gb256,2,none⟩) (Kd.N_far (p:=⟨gb256,1,none⟩) (Kd.N_far (p:=⟨gb256,0,none⟩) (Kd.N_mono HO262.out (fun k_ hk=>(⟨hk,hk.2.2.2.1⟩:_∧k_≠gb256))) (fun _ hk=>hk.2) (.bool false)) (fun _ hk=>hk.2) (.bool false)) (fun _ hk=>hk.2) (.int .i64 255)) (fun _ hk=>hk.2) (.int .i64 0)) (fun _ hk=>hk.2) (.int .i64 0)) (fun _ hk=>hk.2) (.slice Ao43 t260.length co43)) (fun _ hk=>⟨hk.1.1,⟨hk.1.2.1,⟨hk.1.2.2.1,⟨hk.1.2.2.2.1,hk.1.2.2.2.2⟩⟩⟩⟩))))⟩;have n3_:Aside0 (w46.heap[gb256]? = some (.cells #[.bool false,.bool false,.int .i64 255,.int .i64 0,.int .i64 0,.slice Ao43 t260.length co43] 34 (0,0))):=⟨(by rw [hw];exact (by (with_reducible repeat (first|apply zzf|apply zzg|apply zze));refine zzi (cs:=#[.bool false,.bool false,.int .i64 255,.int .i64 0,.int .i64 0,.slice Ao26 t252.length co26]) ?_ 5 _ rfl;(with_reducible repeat (first|apply zzf|apply zzg|apply zze));refine zzi (cs:=#[.bool false,.bool false,.int .i64 255,.int .i64 0,.int .i64 t251,.slice Ao26 t252.length co26]) ?_ 4 _ rfl;(with_reducible repeat (first|apply zzf|apply zzg|apply zze));refine zzi (cs:=#[.bool false,.bool false,.int .i64 255,.int .i64 t250,.int .i64 t251,.slice Ao26 t252.length co26]) ?_ 3 _ rfl;(with_reducible repeat (first|apply zzf|apply zzg|apply zze));refine zzi (cs:=#[.bool false,.bool false,.int .i64 t249,.int .i64 t250,.int .i64 t251,.slice Ao26 t252.length co26]) ?_ 2 _ rfl;(with_reducible repeat (first|apply zzf|apply zzg|apply zze));refine zzi (cs:=#[.bool false,.bool t248,.int .i64 t249,.int .i64 t250,.int .i64 t251,.slice Ao26 t252.length co26]) ?_ 1 _ rfl;(with_reducible repeat (first|apply zzf|apply zzg|apply zze));refine zzi (cs:=#[.bool t247,.bool t248,.int .i64 t249,.int .i64 t250,.int .i64 t251,.slice Ao26 t252.length co26]) ?_ 0 _ rfl;(with_reducible repeat (first|apply zzf|apply zzg|apply zze));exact BK256.out))⟩;have n4_:Aside0 (Qc w0 w46 g s0_0 t263):=⟨(by rw [hw];exact (by repeat (first|(with_reducible first|exact HI0.out|apply Qc.alloc|apply Qc.drewN|apply Qc.drew|apply Qc.set_1|refine Qc.far ?_ NB0_256.out _)|exact HI0.out)))⟩;have n5_:Aside0 (KeepBut w w46 g none):=⟨(by rw [hw];exact (by repeat (first|(with_reducible first|exact HK.out|apply KeepBut.set_|apply keep_drewN|apply keep_drew|apply keep_alloc|refine keep_far ?_ GW256.out _)|exact HK.out)))⟩;have n6_:Aside0 (Below w0.heap.size w0 w46):=⟨(by rw [hw];exact (by repeat (first|(with_reducible first|exact HB.out|apply zza|apply zzb|apply zzc|refine zzd ?_ (Qc.ge HI0.out)|refine zzd ?_ GE256.out)|exact HB.out)))⟩;clear hw HO_3 HO_257005 HO262 BK256 HI0 HK HB;have HO_3:=n0_;have HO_257005:=n1_;have HO262:=n2_;have BK256:=n3_;have HI0:=n4_;have HK:=n5_;have HB:=n6_;clear n0_ n1_ n2_ n3_ n4_ n5_ n6_;obtain ⟨hcz47_0,hcz47_1,hcz47_2,hcz47_3,hcz47_4,hcz47_5,hfz47_0,hfz47_1,hfz47_2,hfz47_3,hfz47_4,hfz47_5⟩:=zzc6 BK256.out)|((with_reducible refine gate_builtin (b:=.append) (xs:=#[.tmp 42,.tmp 44]) rfl ?_);at_builtin;refine Kd.N_append k34 w.heap.size rfl (.tmp 42) (.tmp 44) 23 34 (.agg #[(.bool false),(.bool false),(.int .i64 0),(.int .i64 0),(.int .i64 0),(.slice none 0 0)]) 56 rfl Try.underlying23 info34 rfl (by decide) (by omega) u3 x3_2 (⟨false,false,255,0,0,t260⟩:S34) [.bool false,.bool false,.int .i64 255,.int .i64 0,.int .i64 0,.slice Ao43 t260.length co43] (fun k_=>(w.heap.size≤k_)∧some k_≠(.slice Ao26 t252.length co26:Value).ownBlock∧k_≠gb256∧k_≠g) (fun k_=>((fun k_=>(w.heap.size≤k_)∧some k_≠(.slice Ao26 t252.length co26:Value).ownBlock∧k_≠gb256∧k_≠g)) k_∧some k_≠(u3:Value).ownBlock) rfl rfl ?aP (fun _ hk=>hk) ?aF ?aO (Below.refl _ _) ?aS ?aL ?_;(case aP=>exact (k34_mkF _ _ (⟨false,false,255,0,0,t260⟩:S34) (Kd.N_reads' (Kd.N_mono (ok':=(fun k_=>((fun k_=>(w.heap.size≤k_)∧some k_≠(.slice Ao26 t252.length co26:Value).ownBlock∧k_≠gb256∧k_≠g)) k_∧some k_≠(u3:Value).ownBlock)) (HO262.out) (fun k_ hk=>⟨⟨hk.1,⟨hk.2.2.1,⟨hk.2.2.2.1,hk.2.2.2.2⟩⟩⟩,hk.2.1⟩))).2.1 (Kd.N_F (Kd.N_mono (ok':=(fun k_=>((fun k_=>(w.heap.size≤k_)∧some k_≠(.slice Ao26 t252.length co26:Value).ownBlock∧k_≠gb256∧k_≠g)) k_∧some k_≠(u3:Value).ownBlock)) (HO262.out) (fun k_ hk=>⟨⟨hk.1,⟨hk.2.2.1,⟨hk.2.2.2.1,hk.2.2.2.2⟩⟩⟩,hk.2.1⟩)))));(case aF=>exact (fun k_ hk=>⟨(Nat.le_trans (keep_size (w:=w) (g:=g) (row:=none) (by repeat (first|(with_reducible first|exact HK.out|apply KeepBut.set_|apply keep_drewN|apply keep_drew|apply keep_alloc|refine keep_far ?_ GW256.out _)|exact HK.out))) hk),Kd.fresh' (Kd.N_lt (zzN HO_257005.out)) k_ hk,Kd.freshB (g:=gb256) (o:=.cells #[.bool false,.bool false,.int .i64 255,.int .i64 0,.int .i64 0,.slice Ao43 t260.length co43] 34 (0,0)) (zzE BK256.out) k_ hk,Qc.fresh (by repeat (first|(with_reducible first|exact HI0.out|apply Qc.alloc|apply Qc.drewN|apply Qc.drew|apply Qc.set_1|refine Qc.far ?_ NB0_256.out _)|exact HI0.out)) k_ hk⟩));(case aO=>exact (zzN (Kd.N_mono HO_3.out (fun _ hk=>⟨hk.1,⟨hk.2.1,⟨hk.2.2.2.1,hk.2.2.2.2⟩⟩⟩))));(case aS=>exact (keep_size (w:=w) (g:=g) (row:=none) (by repeat (first|(with_reducible first|exact HK.out|apply KeepBut.set_|apply keep_drewN|apply keep_drew|apply keep_alloc|refine keep_far ?_ GW256.out _)|exact HK.out))));(case aL=>have:=LMc37.out;omega);intro v265 w48 ho hb hg hat;rw [← Ny264.out] at ho;have nq_:=zzm (Kd.N_afterv (ok:=fun k_=>(w.heap.size≤k_)) (by (with_reducible repeat (first|apply Kd.N_alloc|apply Kd.N_drewN|apply Kd.N_drew));exact Kd.N_mono HO262.out (fun k_ hk=>by (try simp only [and_assoc] at hk);(try simp only [and_assoc]);repeat' (first|exact hk.1|exact hk.2.1|exact hk.2.2.1|exact hk.2.2.2.1|exact hk.2.2.2.2.1|exact hk.2.2.2.2.2.1|exact hk.2.2.2.2.2.2|exact hk.2.2.2.2.2|exact hk.2.2.2.2|exact hk.2.2.2|exact hk.2.2|exact hk.2|exact hk|apply And.intro))) hg hat);have n0_:=zzm (Kd.N_afterv (ok:=(fun k_=>(w.heap.size≤k_)∧some k_≠(.slice Ao43 t260.length co43:Value).ownBlock∧k_≠gb256∧k_≠g)) (zzN (Kd.N_mono HO_257005.out (fun _ hk=>⟨⟨hk.1,⟨hk.2.2.1,⟨hk.2.2.2.1,hk.2.2.2.2⟩⟩⟩,hk.2.1⟩))) hg hat);have n1_:=zzm (blk_grown (g:=gb256) (o:=.cells #[.bool false,.bool false,.int .i64 255,.int .i64 0,.int .i64 0,.slice Ao43 t260.length co43] 34 (0,0)) (zzE BK256.out) hg (Kd.N_away HO_3.out (fun _ hk=>hk.2.2.2.1)));have n2_:=zzm (Qc.grown (by repeat (first|(with_reducible first|exact HI0.out|apply Qc.alloc|apply Qc.drewN|apply Qc.drew|apply Qc.set_1|refine Qc.far ?_ NB0_256.out _)|exact HI0.out)) hg (Qc.own_neN HI0.out HO_3.out (by decide)));have n3_:=zzm (below_weaken (by repeat (first|(with_reducible first|exact HB.out|apply zza|apply zzb|apply zzc|refine zzd ?_ (Qc.ge HI0.out)|refine zzd ?_ GE256.out)|exact HB.out)) HL.out hb);have n4_:=zzm (KeepBut.trans (by repeat (first|(with_reducible first|exact HK.out|apply KeepBut.set_|apply keep_drewN|apply keep_drew|apply keep_alloc|refine keep_far ?_ GW256.out _)|exact HK.out)) (KeepBut.of_grown hg g) (Kd.N_base2 HO_3.out));have n5_:=zzm (ho);clear HO_257005 BK256 HI0 HB HK HO_3 HO262;have HO262:=nq_;clear nq_;have HO_257005:=n0_;have BK256:=n1_;have HI0:=n2_;have HB:=n3_;have HK:=n4_;have HO266:=n5_;clear n0_ n1_ n2_ n3_ n4_ n5_ ho hb hg hat))
            have n0_:=zzm (Kd.N_drew HO_257005.out);have n1_:=zzm (Kd.N_drew HO266.out);have n2_:=zzm (zzg BK256.out);have NQ_HO262:=zzm (Qc.own_neN HI0.out HO262.out (by decide));have n3_:=zzm (Qc.drew HI0.out);have n4_:=zzm (keep_drew HK.out);have n5_:=zzm (zzc HB.out);clear HO_257005 HO266 BK256 HI0 HK HB;have HO_257005:=n0_;have HO266:=n1_;have BK256:=n2_;have HI0:=n3_;have HK:=n4_;have HB:=n5_;clear n0_ n1_ n2_ n3_ n4_ n5_;have p267 : 0≤((ji38):Int):=zzt;have q267:(ji38) < (t260.length:Int):=zzt;obtain ⟨ad267,A267_3,c267_3,A267_5,c267_5,e267,hx267_0,hx267_1,hx267_2,hx267_3,hx267_4,hx267_5,hl267_3,hi267_3,hl267_5,hi267_5⟩:=Qy (Kd.N_reads' HO262.out).2.2 (ji38) p267 q267;cases e267;have HR267_3:=zzm hi267_3;have HC267_3:=zzm hl267_3;clear hi267_3 hl267_3;have HR267_5:=zzm hi267_5;have HC267_5:=zzm hl267_5;clear hi267_5 hl267_5;replace p267:=eq_true p267;replace q267:=eq_true q267;refine start_ (n:=16) (S:=fun w'=>w'.cell? ⟨gb256,0,none⟩=some (.bool false)∧w'.cell? ⟨gb256,1,none⟩=some (.bool false)∧w'.cell? ⟨gb256,2,none⟩=some (.int .i64 255)∧w'.cell? ⟨gb256,3,none⟩=some (.int .i64 0)∧w'.cell? ⟨gb256,4,none⟩=some (.int .i64 0)∧w'.cell? ⟨gb256,5,none⟩=some (.slice (some ad267) t260.length co43)∧w'.cell? (ad267.add (((ji38)).toNat * 6))=some (.int .i64 ((Qb t260 (ji38)).f0))∧w'.cell? ⟨(ad267.add (((ji38)).toNat * 6)).block,(ad267.add (((ji38)).toNat * 6)).off+1,none⟩=some (.int .i64 ((Qb t260 (ji38)).f1))∧w'.cell? ⟨(ad267.add (((ji38)).toNat * 6)).block,(ad267.add (((ji38)).toNat * 6)).off+2,none⟩=some (.bool ((Qb t260 (ji38)).f2))∧w'.cell? ⟨(ad267.add (((ji38)).toNat * 6)).block,(ad267.add (((ji38)).toNat * 6)).off+3,none⟩=some (.slice A267_3 ((Qb t260 (ji38)).f3).length c267_3)∧w'.cell? ⟨(ad267.add (((ji38)).toNat * 6)).block,(ad267.add (((ji38)).toNat * 6)).off+4,none⟩=some (.bool ((Qb t260 (ji38)).f4))∧w'.cell? ⟨(ad267.add (((ji38)).toNat * 6)).block,(ad267.add (((ji38)).toNat * 6)).off+5,none⟩=some (.slice A267_5 ((Qb t260 (ji38)).f5).length c267_5)) (ds:=[]) (zzB 16 0) (by kernel_rfl) rfl rfl ⟨(zzk BK256.out 0).trans rfl,(zzk BK256.out 1).trans rfl,(zzk BK256.out 2).trans rfl,(zzk BK256.out 3).trans rfl,(zzk BK256.out 4).trans rfl,(zzk BK256.out 5).trans rfl,hx267_0,hx267_1,hx267_2,hx267_3,hx267_4,hx267_5⟩ (fun hHeld=>?_);refine with_tabW Qh.tab13 Qh.bits13 (fun HT_ HW_=>?_);generalize w48.drew=w49 at HO_257005 HO266 BK256 HI0 HK HB HR267_3 HR267_5 hx267_0 hx267_1 hx267_2 hx267_3 hx267_4 hx267_5 hHeld ⊢;refine pure_ (i:=0) (N:=some 46) (v:=?_) (a':=?_) (zzB 16 1) rfl rfl (zzA2 HT_.out) (fun _ _ _ h=>h) (Or.inl ⟨by rfl,?_⟩) ?_ ?_;rotate_left
            ·
             intro w';go_simp;with_reducible rfl
            rotate_left
            ·
             simp only [Act.put,zzq,zzr,zzs,i64_w,i32_w];rfl
            refine pure_ (i:=2) (N:=some 48) (v:=?_) (a':=?_) (zzB 16 5) rfl rfl (zzA2 HT_.out) (fun _ _ _ h=>h) (Or.inl ⟨by rfl,?_⟩) ?_ ?_;rotate_left
            ·
             intro w';go_simp;with_reducible rfl
            rotate_left
            ·
             simp only [Act.put,zzq,zzr,zzs,i64_w,i32_w];rfl
            refine pure_ (i:=10) (N:=some 56) (v:=?_) (a':=?_) (zzB 16 1029) rfl rfl (zzA2 HT_.out) (fun _ _ _ h=>h) (Or.inl ⟨by rfl,?_⟩) ?_ ?_;rotate_left
            ·
             intro w';go_simp;with_reducible rfl
            rotate_left
            ·
             simp only [Act.put,zzq,zzr,zzs,i64_w,i32_w];rfl
            refine take_ (i:=1) (N:=some 47) (v:=?_) (a':=?_) (zzB 16 1031) rfl rfl (take_ofW HT_.out HW_.out (by kernel_rfl)) (fun _ _ _ h=>h) (Or.inl ⟨by rfl,?_⟩) hHeld ?_ ?_;rotate_left
            ·
             rintro w' ⟨s0,s1,s2,s3,s4,s5,s6,s7,s8,s9,s10,s11⟩;go_simp;with_reducible rfl
            rotate_left
            ·
             simp only [Act.put,zzq,zzr,zzs,i64_w,i32_w];rfl
            refine take_ (i:=3) (N:=some 49) (v:=?_) (a':=?_) (zzB 16 1039) rfl rfl (take_ofW HT_.out HW_.out (by kernel_rfl)) (fun _ _ _ h=>h) (Or.inl ⟨by rfl,?_⟩) hHeld ?_ ?_;rotate_left
            ·
             rintro w' ⟨s0,s1,s2,s3,s4,s5,s6,s7,s8,s9,s10,s11⟩;go_simp;with_reducible rfl
            rotate_left
            ·
             simp only [Act.put,zzq,zzr,zzs,i64_w,i32_w];rfl
            refine pure_ (i:=4) (N:=some 50) (v:=?_) (a':=?_) (zzB 16 1055) rfl rfl (zzA2 HT_.out) (fun _ _ _ h=>h) (Or.inl ⟨by rfl,?_⟩) ?_ ?_;rotate_left
            ·
             intro w';go_simp;with_reducible rfl
            rotate_left
            ·
             simp only [Act.put,zzq,zzr,zzs,i64_w,i32_w];rfl
            refine pure_ (i:=5) (N:=some 51) (v:=?_) (a':=?_) (zzB 16 1087) rfl rfl (zzA2 HT_.out) (fun _ _ _ h=>h) (Or.inl ⟨by rfl,?_⟩) ?_ ?_;rotate_left
            ·
             intro w';go_simp;with_reducible rfl
            rotate_left
            ·
             simp only [Act.put,zzq,zzr,zzs,i64_w,i32_w];rfl
            refine pure_ (i:=6) (N:=some 52) (v:=?_) (a':=?_) (zzB 16 1151) rfl rfl (zzA2 HT_.out) (fun _ _ _ h=>h) (Or.inl ⟨by rfl,?_⟩) ?_ ?_;rotate_left
            ·
             intro w';go_simp;with_reducible rfl
            rotate_left
            ·
             simp only [Act.put,zzq,zzr,zzs,i64_w,i32_w];rfl
            refine pure_ (i:=7) (N:=some 53) (v:=?_) (a':=?_) (zzB 16 1279) rfl rfl (zzA2 HT_.out) (fun _ _ _ h=>h) (Or.inl ⟨by rfl,?_⟩) ?_ ?_;rotate_left
            ·
             intro w';go_simp;with_reducible rfl
            rotate_left
            ·
             simp only [Act.put,zzq,zzr,zzs,i64_w,i32_w];rfl
            refine take_ (i:=8) (N:=some 54) (v:=?_) (a':=?_) (zzB 16 1535) rfl rfl (take_ofW HT_.out HW_.out (by kernel_rfl)) (fun _ _ _ h=>h) (Or.inl ⟨by rfl,?_⟩) hHeld ?_ ?_;rotate_left
            ·
             rintro w' ⟨s0,s1,s2,s3,s4,s5,s6,s7,s8,s9,s10,s11⟩;go_simp;with_reducible rfl
            rotate_left
            ·
             simp only [Act.put,zzq,zzr,zzs,i64_w,i32_w];rfl
            refine pure_ (i:=9) (N:=some 55) (v:=?_) (a':=?_) (zzB 16 2047) rfl rfl (zzA2 HT_.out) (fun _ _ _ h=>h) (Or.inl ⟨by rfl,?_⟩) ?_ ?_;rotate_left
            ·
             intro w';go_simp;with_reducible rfl
            rotate_left
            ·
             simp only [Act.put,zzq,zzr,zzs,i64_w,i32_w];rfl
            refine one_ (i:=11) (N:=some 57) (zzB 16 4095) rfl rfl (one_of HT_.out (by kernel_rfl)) (by decide) (fun K hK=>?_);refine goes_ Try.func54 (by kernel_rfl) rfl #[.pointer (some ⟨g,0,none⟩),.int .i64 4] (by rfl) rfl rfl zzM2 ?_;with_reducible refine (Qd.calls kj20 g s0_0 t263 4 t268 t269 w0 _ ?side1 ?side2 A41.out).mono ?_
            (case side1=>repeat (first|(with_reducible first|exact HI0.out|apply Qc.alloc|apply Qc.drewN|apply Qc.drew|apply Qc.set_1|refine Qc.far ?_ NB0_256.out _)|exact HI0.out))
            (case side2=>repeat (first|(with_reducible first|exact HB.out|apply zza|apply zzb|apply zzc|refine zzd ?_ (Qc.ge HI0.out)|refine zzd ?_ GE256.out)|exact HB.out));rintro e w50 ⟨rfl,hi,hb,hk⟩;have HS6_:=keep_cell hk (hHeld.2.2.2.2.2.2.1) (by first|(rw [add_block];exact Kd.own_blk (NQ_HO262.out))|(show (Addr.add _ _).block≠_;rw [add_block];exact Kd.own_blk (NQ_HO262.out))|exact Kd.own_blk (NQ_HO262.out));have HS7_:=keep_cell hk (hHeld.2.2.2.2.2.2.2.1) (by first|(rw [add_block];exact Kd.own_blk (NQ_HO262.out))|(show (Addr.add _ _).block≠_;rw [add_block];exact Kd.own_blk (NQ_HO262.out))|exact Kd.own_blk (NQ_HO262.out));have HS8_:=keep_cell hk (hHeld.2.2.2.2.2.2.2.2.1) (by first|(rw [add_block];exact Kd.own_blk (NQ_HO262.out))|(show (Addr.add _ _).block≠_;rw [add_block];exact Kd.own_blk (NQ_HO262.out))|exact Kd.own_blk (NQ_HO262.out));have HS9_:=keep_cell hk (hHeld.2.2.2.2.2.2.2.2.2.1) (by first|(rw [add_block];exact Kd.own_blk (NQ_HO262.out))|(show (Addr.add _ _).block≠_;rw [add_block];exact Kd.own_blk (NQ_HO262.out))|exact Kd.own_blk (NQ_HO262.out));have HS10_:=keep_cell hk (hHeld.2.2.2.2.2.2.2.2.2.2.1) (by first|(rw [add_block];exact Kd.own_blk (NQ_HO262.out))|(show (Addr.add _ _).block≠_;rw [add_block];exact Kd.own_blk (NQ_HO262.out))|exact Kd.own_blk (NQ_HO262.out));have HS11_:=keep_cell hk (hHeld.2.2.2.2.2.2.2.2.2.2.2) (by first|(rw [add_block];exact Kd.own_blk (NQ_HO262.out))|(show (Addr.add _ _).block≠_;rw [add_block];exact Kd.own_blk (NQ_HO262.out))|exact Kd.own_blk (NQ_HO262.out));refine ⟨_,rfl,?_⟩;have n0_:=zzm (Kd.N_mono (Kd.N_keep (Kd.N_mono (ok:=fun k_=>((((w.heap.size≤k_))∧(some k_≠(.slice (some ad267) t260.length co43:Value).ownBlock∧(k_≠gb256∧k_≠g)))∧some k_≠(v265:Value).ownBlock)) (zzN HO_257005.out) (fun k_ hk_=>(⟨hk_,hk_.1.2.2.2⟩:_∧k_≠g))) hk (fun _ h=>h.2)) (fun _ h=>h.1));have n1_:=zzm (KeepBut.blk hk (g':=gb256) (o:=.cells #[.bool false,.bool false,.int .i64 255,.int .i64 0,.int .i64 0,.slice (some ad267) t260.length co43] 34 (0,0)) (zzE BK256.out) NB256_0.out (by simp));have n2_:=zzm (Kd.N_mono (Kd.N_keep (Kd.N_mono (ok:=fun k_=>(((w.heap.size≤k_))∧(some k_≠(.slice Ao26 t252.length co26:Value).ownBlock∧(k_≠gb256∧k_≠g)))) (zzN HO266.out) (fun k_ hk_=>(⟨hk_,hk_.2.2.2⟩:_∧k_≠g))) hk (fun _ h=>h.2)) (fun _ h=>h.1));have n3_:=zzm (KeepBut.trans (by repeat (first|(with_reducible first|exact HK.out|apply KeepBut.set_|apply keep_drewN|apply keep_drew|apply keep_alloc|refine keep_far ?_ GW256.out _)|exact HK.out)) hk (.inl rfl));have n4_:=zzm (hb);have n5_:=zzm (hi);clear HO_257005 BK256 HO266 HK HB HI0;have HO_257005:=n0_;have BK256:=n1_;have HO266:=n2_;have HK:=n3_;have HB:=n4_;have HI0:=n5_;clear n0_ n1_ n2_ n3_ n4_ n5_
            (try clear hb)
            (try clear hb2)
            (try clear hk)
            (try clear hi);refine hK.out _ _ ⟨(zzk BK256.out 0).trans rfl,(zzk BK256.out 1).trans rfl,(zzk BK256.out 2).trans rfl,(zzk BK256.out 3).trans rfl,(zzk BK256.out 4).trans rfl,(zzk BK256.out 5).trans rfl,HS6_,HS7_,HS8_,HS9_,HS10_,HS11_⟩ (fun hHeld=>?_);clear hK K;refine norm_ (a':=?_) ?_ ?_;rotate_left
            ·
             show Act.put _ (some 57) _ = _;simp only [Act.put,zzq,zzr,zzs,i64_w,i32_w];rfl
            refine pure_ (i:=12) (N:=some 58) (v:=?_) (a':=?_) (zzB 16 8191) rfl rfl (zzA2 HT_.out) (fun _ _ _ h=>h) (Or.inl ⟨by rfl,?_⟩) ?_ ?_;rotate_left
            ·
             intro w';go_simp;with_reducible rfl
            rotate_left
            ·
             simp only [Act.put,zzq,zzr,zzs,i64_w,i32_w];rfl
            refine pure_ (i:=13) (N:=some 59) (v:=?_) (a':=?_) (zzB 16 16383) rfl rfl (zzA2 HT_.out) (fun _ _ _ h=>h) (Or.inl ⟨by rfl,?_⟩) ?_ ?_;rotate_left
            ·
             intro w';go_simp;with_reducible rfl
            rotate_left
            ·
             simp only [Act.put,zzq,zzr,zzs,i64_w,i32_w];rfl
            refine pure_ (i:=14) (N:=some 60) (v:=?_) (a':=?_) (zzB 16 32767) rfl rfl (zzA2 HT_.out) (fun _ _ _ h=>h) (Or.inl ⟨by rfl,?_⟩) ?_ ?_;rotate_left
            ·
             intro w';go_simp;with_reducible rfl
            rotate_left
            ·
             simp only [Act.put,zzq,zzr,zzs,i64_w,i32_w];rfl
            refine pure_ (i:=15) (N:=some 5) (v:=?_) (a':=?_) (zzB 16 65535) rfl rfl (zzA2 HT_.out) (fun _ _ _ h=>h) (Or.inl ⟨by rfl,?_⟩) ?_ ?_;rotate_left
            ·
             intro w';go_simp;with_reducible rfl
            rotate_left
            ·
             simp only [Act.put,zzq,zzr,zzs,i64_w,i32_w];rfl
            refine done_ (done_of HT_.out (by kernel_rfl)) ?_;try go_wp2
            go_roundg kj20
            case measure=>have:=HJ3.out;have:=HK2.out;have:=HJ20.out;omega
            case rel=>exact ⟨(y264),(wrap64 ((wrap64 (((Qb t260 (ji38)).f0)+1))+(wrap64 ((wrap64 (Int.tdiv t268 3)) * 2)))),(wrap64 (x6_2+1)),(t269),(by first|rfl|(simp;done)|(simp only [← hji38] <;> (first|rfl|simp))|(simp [*];done)),(by first|rfl|(simp;done)|(simp [*];done)),H',⟨by have:=HJ3.out;have:=HK2.out;have:=HJ20.out;omega⟩,⟨by (with_reducible repeat (first|apply Kd.N_alloc|apply Kd.N_drewN|apply Kd.N_drew));exact Kd.N_mono HO266.out (fun _ hk=>⟨hk.1,hk.2.2.2⟩)⟩,⟨by repeat (first|(with_reducible first|exact HI0.out|apply Qc.alloc|apply Qc.drewN|apply Qc.drew|apply Qc.set_1|refine Qc.far ?_ NB0_256.out _)|exact HI0.out)⟩,⟨by repeat (first|(with_reducible first|exact HK.out|apply KeepBut.set_|apply keep_drewN|apply keep_drew|apply keep_alloc|refine keep_far ?_ GW256.out _)|exact HK.out)⟩,⟨by repeat (first|(with_reducible first|exact HB.out|apply zza|apply zzb|apply zzc|refine zzd ?_ (Qc.ge HI0.out)|refine zzd ?_ GE256.out)|exact HB.out)⟩⟩
           ·
            rw [if_neg c40] at H;exact absurd H (by simp)
          ·
           rw [if_neg c39] at H;exact absurd H (by simp)
         ·
          rw [if_neg c37] at H;exact absurd H (by simp)
        ·
         replace c35:=Bool.eq_false_iff.mpr c35;subst c35;have H1:(if x3_2.length < 2513169434916 then (if 0≤(wrap64 ((t252.length:Int) - 1)) then (if (wrap64 ((t252.length:Int) - 1)) < (t252.length:Int) then ((Qd.f kj20 s0_0 x1001_20 4).bind fun bt274=>(Qh.l0 kj20 (x3_2 ++ [(⟨t247,t248,t249,t250,t251,t252⟩:S34)]) x4_3 (wrap64 ((wrap64 (((Qb t252 (wrap64 ((t252.length:Int) - 1))).f0)+1))+(wrap64 ((wrap64 (Int.tdiv bt274.1 3)) * 2)))) (wrap64 (x6_2+1)) s0_0 bt274.2)) else (none)) else (none)) else (none))=some (r1,r2):=by rw [if_neg (show ¬ (false=true) by decide)] at H;exact H
         clear H;have H:=H1;clear H1;by_cases c51:x3_2.length < 2513169434916
         ·
          rw [if_pos c51] at H;have LMc51:=zzm c51;clear c51;obtain ⟨y270,hy270⟩:∃ y_:List (S34),y_=(x3_2 ++ [(⟨t247,t248,t249,t250,t251,t252⟩:S34)]):=⟨_,rfl⟩;replace H:(if 0≤(wrap64 ((t252.length:Int) - 1)) then (if (wrap64 ((t252.length:Int) - 1)) < (t252.length:Int) then ((Qd.f kj20 s0_0 x1001_20 4).bind fun bt274=>(Qh.l0 kj20 y270 x4_3 (wrap64 ((wrap64 (((Qb t252 (wrap64 ((t252.length:Int) - 1))).f0)+1))+(wrap64 ((wrap64 (Int.tdiv bt274.1 3)) * 2)))) (wrap64 (x6_2+1)) s0_0 bt274.2)) else (none)) else (none))=some (r1,r2):=by first|(rw [hy270];with_reducible exact H)|(have H2_:=(Option.bind_some _ _).symm.trans H;rw [hy270];with_reducible exact H2_)|(have H2_:=(Option.bind_some _ _).symm.trans H;with_reducible exact H2_)|with_reducible exact H|(rw [hy270];exact H)|exact H
          have Ny270:=zzm hy270;clear hy270;obtain ⟨ji52,hji52⟩:∃ j_:Int,(wrap64 ((t252.length:Int) - 1))=j_:=⟨_,rfl⟩;replace H:(if 0≤(ji52) then (if (ji52) < (t252.length:Int) then ((Qd.f kj20 s0_0 x1001_20 4).bind fun bt274=>(Qh.l0 kj20 y270 x4_3 (wrap64 ((wrap64 (((Qb t252 (ji52)).f0)+1))+(wrap64 ((wrap64 (Int.tdiv bt274.1 3)) * 2)))) (wrap64 (x6_2+1)) s0_0 bt274.2)) else (none)) else (none))=some (r1,r2):=by first|(rw [hji52] at H;exact H)|(simp only [hji52] at H ⊢;exact H)
          have hji52w:(IntKind.i64.wrap ((t252.length:Int) - 1))=ji52:=(i64_w _).trans hji52;by_cases c53 : 0≤(ji52)
          ·
           rw [if_pos c53] at H;have c53b0:decide (0≤(ji52))=true:=decide_eq_true c53;clear c53;by_cases c54:(ji52) < (t252.length:Int)
           ·
            rw [if_pos c54] at H;have c54b0:decide ((ji52) < (t252.length:Int))=true:=decide_eq_true c54;clear c54;replace H:=Option.bind_eq_some_iff.mp H;obtain ⟨⟨t274,t275⟩,A550,H⟩:=H;replace H:(Qh.l0 kj20 y270 x4_3 (wrap64 ((wrap64 (((Qb t252 (ji52)).f0)+1))+(wrap64 ((wrap64 (Int.tdiv t274 3)) * 2)))) (wrap64 (x6_2+1)) s0_0 t275)=some (r1,r2):=H;have A55:=zzm A550;clear A550;have H':=zzm H;clear H;have hnb56:=NB256_0.out;have hnc56:=NB0_256.out;obtain ⟨hcz57_0,hcz57_1,hcz57_2,hcz57_3,hcz57_4,hcz57_5,hfz57_0,hfz57_1,hfz57_2,hfz57_3,hfz57_4,hfz57_5⟩:=zzc6 BK256.out;try go_wp2_with (first|((with_reducible refine gate_builtin (b:=.append) (xs:=#[.tmp 42,.tmp 44]) rfl ?_);at_builtin;refine Kd.N_append k34 w.heap.size rfl (.tmp 42) (.tmp 44) 23 34 (.agg #[(.bool false),(.bool false),(.int .i64 0),(.int .i64 0),(.int .i64 0),(.slice none 0 0)]) 56 rfl Try.underlying23 info34 rfl (by decide) (by omega) u3 x3_2 (⟨t247,t248,t249,t250,t251,t252⟩:S34) [.bool t247,.bool t248,.int .i64 t249,.int .i64 t250,.int .i64 t251,.slice Ao26 t252.length co26] (fun k_=>(w.heap.size≤k_)∧k_≠gb256∧k_≠g) (fun k_=>((fun k_=>(w.heap.size≤k_)∧k_≠gb256∧k_≠g)) k_∧some k_≠(u3:Value).ownBlock) rfl rfl ?aP (fun _ hk=>hk) ?aF ?aO (Below.refl _ _) ?aS ?aL ?_;(case aP=>exact (k34_mkF _ _ (⟨t247,t248,t249,t250,t251,t252⟩:S34) (Kd.N_reads' (Kd.N_mono (ok':=(fun k_=>((fun k_=>(w.heap.size≤k_)∧k_≠gb256∧k_≠g)) k_∧some k_≠(u3:Value).ownBlock)) (HO_257005.out) (fun k_ hk=>⟨⟨hk.1,⟨hk.2.2.1,hk.2.2.2⟩⟩,hk.2.1⟩))).2.1 (Kd.N_F (Kd.N_mono (ok':=(fun k_=>((fun k_=>(w.heap.size≤k_)∧k_≠gb256∧k_≠g)) k_∧some k_≠(u3:Value).ownBlock)) (HO_257005.out) (fun k_ hk=>⟨⟨hk.1,⟨hk.2.2.1,hk.2.2.2⟩⟩,hk.2.1⟩)))));(case aF=>exact (fun k_ hk=>⟨(Nat.le_trans (keep_size (w:=w) (g:=g) (row:=none) (by repeat (first|(with_reducible first|exact HK.out|apply KeepBut.set_|apply keep_drewN|apply keep_drew|apply keep_alloc|refine keep_far ?_ GW256.out _)|exact HK.out))) hk),Kd.freshB (g:=gb256) (o:=.cells #[.bool t247,.bool t248,.int .i64 t249,.int .i64 t250,.int .i64 t251,.slice Ao26 t252.length co26] 34 (0,0)) (zzE BK256.out) k_ hk,Qc.fresh (by repeat (first|(with_reducible first|exact HI0.out|apply Qc.alloc|apply Qc.drewN|apply Qc.drew|apply Qc.set_1|refine Qc.far ?_ NB0_256.out _)|exact HI0.out)) k_ hk⟩));(case aO=>exact (zzN (Kd.N_mono HO_3.out (fun _ hk=>⟨hk.1,⟨hk.2.2.1,hk.2.2.2⟩⟩))));(case aS=>exact (keep_size (w:=w) (g:=g) (row:=none) (by repeat (first|(with_reducible first|exact HK.out|apply KeepBut.set_|apply keep_drewN|apply keep_drew|apply keep_alloc|refine keep_far ?_ GW256.out _)|exact HK.out))));(case aL=>have:=LMc51.out;omega);intro v271 w58 ho hb hg hat;rw [← Ny270.out] at ho;have nq_:=zzm (Kd.N_afterv (ok:=fun k_=>(w.heap.size≤k_)) (by (with_reducible repeat (first|apply Kd.N_alloc|apply Kd.N_drewN|apply Kd.N_drew));exact Kd.N_mono HO_257005.out (fun k_ hk=>by (try simp only [and_assoc] at hk);(try simp only [and_assoc]);repeat' (first|exact hk.1|exact hk.2.1|exact hk.2.2.1|exact hk.2.2.2.1|exact hk.2.2.2.2.1|exact hk.2.2.2.2.2.1|exact hk.2.2.2.2.2.2|exact hk.2.2.2.2.2|exact hk.2.2.2.2|exact hk.2.2.2|exact hk.2.2|exact hk.2|exact hk|apply And.intro))) hg hat);have n0_:=zzm (blk_grown (g:=gb256) (o:=.cells #[.bool t247,.bool t248,.int .i64 t249,.int .i64 t250,.int .i64 t251,.slice Ao26 t252.length co26] 34 (0,0)) (zzE BK256.out) hg (Kd.N_away HO_3.out (fun _ hk=>hk.2.2.1)));have n1_:=zzm (Qc.grown (by repeat (first|(with_reducible first|exact HI0.out|apply Qc.alloc|apply Qc.drewN|apply Qc.drew|apply Qc.set_1|refine Qc.far ?_ NB0_256.out _)|exact HI0.out)) hg (Qc.own_neN HI0.out HO_3.out (by decide)));have n2_:=zzm (below_weaken (by repeat (first|(with_reducible first|exact HB.out|apply zza|apply zzb|apply zzc|refine zzd ?_ (Qc.ge HI0.out)|refine zzd ?_ GE256.out)|exact HB.out)) HL.out hb);have n3_:=zzm (KeepBut.trans (by repeat (first|(with_reducible first|exact HK.out|apply KeepBut.set_|apply keep_drewN|apply keep_drew|apply keep_alloc|refine keep_far ?_ GW256.out _)|exact HK.out)) (KeepBut.of_grown hg g) (Kd.N_base2 HO_3.out));have n4_:=zzm (ho);clear BK256 HI0 HB HK HO_3 HO_257005;have HO_257005:=nq_;clear nq_;have BK256:=n0_;have HI0:=n1_;have HB:=n2_;have HK:=n3_;have HO272:=n4_;clear n0_ n1_ n2_ n3_ n4_ ho hb hg hat))
            have n0_:=zzm (Kd.N_drew HO272.out);have n1_:=zzm (zzg BK256.out);have NQ_HO_257005:=zzm (Qc.own_neN HI0.out HO_257005.out (by decide));have n2_:=zzm (Qc.drew HI0.out);have n3_:=zzm (keep_drew HK.out);have n4_:=zzm (zzc HB.out);clear HO272 BK256 HI0 HK HB;have HO272:=n0_;have BK256:=n1_;have HI0:=n2_;have HK:=n3_;have HB:=n4_;clear n0_ n1_ n2_ n3_ n4_;have p273 : 0≤((ji52):Int):=zzt;have q273:(ji52) < (t252.length:Int):=zzt;obtain ⟨ad273,A273_3,c273_3,A273_5,c273_5,e273,hx273_0,hx273_1,hx273_2,hx273_3,hx273_4,hx273_5,hl273_3,hi273_3,hl273_5,hi273_5⟩:=Qy (Kd.N_reads' HO_257005.out).2.2 (ji52) p273 q273;cases e273;have HR273_3:=zzm hi273_3;have HC273_3:=zzm hl273_3;clear hi273_3 hl273_3;have HR273_5:=zzm hi273_5;have HC273_5:=zzm hl273_5;clear hi273_5 hl273_5;replace p273:=eq_true p273;replace q273:=eq_true q273;refine start_ (n:=16) (S:=fun w'=>w'.cell? ⟨gb256,0,none⟩=some (.bool t247)∧w'.cell? ⟨gb256,1,none⟩=some (.bool t248)∧w'.cell? ⟨gb256,2,none⟩=some (.int .i64 t249)∧w'.cell? ⟨gb256,3,none⟩=some (.int .i64 t250)∧w'.cell? ⟨gb256,4,none⟩=some (.int .i64 t251)∧w'.cell? ⟨gb256,5,none⟩=some (.slice (some ad273) t252.length co26)∧w'.cell? (ad273.add (((ji52)).toNat * 6))=some (.int .i64 ((Qb t252 (ji52)).f0))∧w'.cell? ⟨(ad273.add (((ji52)).toNat * 6)).block,(ad273.add (((ji52)).toNat * 6)).off+1,none⟩=some (.int .i64 ((Qb t252 (ji52)).f1))∧w'.cell? ⟨(ad273.add (((ji52)).toNat * 6)).block,(ad273.add (((ji52)).toNat * 6)).off+2,none⟩=some (.bool ((Qb t252 (ji52)).f2))∧w'.cell? ⟨(ad273.add (((ji52)).toNat * 6)).block,(ad273.add (((ji52)).toNat * 6)).off+3,none⟩=some (.slice A273_3 ((Qb t252 (ji52)).f3).length c273_3)∧w'.cell? ⟨(ad273.add (((ji52)).toNat * 6)).block,(ad273.add (((ji52)).toNat * 6)).off+4,none⟩=some (.bool ((Qb t252 (ji52)).f4))∧w'.cell? ⟨(ad273.add (((ji52)).toNat * 6)).block,(ad273.add (((ji52)).toNat * 6)).off+5,none⟩=some (.slice A273_5 ((Qb t252 (ji52)).f5).length c273_5)) (ds:=[]) (zzB 16 0) (by kernel_rfl) rfl rfl ⟨(zzk BK256.out 0).trans rfl,(zzk BK256.out 1).trans rfl,(zzk BK256.out 2).trans rfl,(zzk BK256.out 3).trans rfl,(zzk BK256.out 4).trans rfl,(zzk BK256.out 5).trans rfl,hx273_0,hx273_1,hx273_2,hx273_3,hx273_4,hx273_5⟩ (fun hHeld=>?_);refine with_tabW Qh.tab13 Qh.bits13 (fun HT_ HW_=>?_);generalize w58.drew=w59 at HO272 BK256 HI0 HK HB HR273_3 HR273_5 hx273_0 hx273_1 hx273_2 hx273_3 hx273_4 hx273_5 hHeld ⊢;refine pure_ (i:=0) (N:=some 46) (v:=?_) (a':=?_) (zzB 16 1) rfl rfl (zzA2 HT_.out) (fun _ _ _ h=>h) (Or.inl ⟨by rfl,?_⟩) ?_ ?_;rotate_left
            ·
             intro w';go_simp;with_reducible rfl
            rotate_left
            ·
             simp only [Act.put,zzq,zzr,zzs,i64_w,i32_w];rfl
            refine pure_ (i:=2) (N:=some 48) (v:=?_) (a':=?_) (zzB 16 5) rfl rfl (zzA2 HT_.out) (fun _ _ _ h=>h) (Or.inl ⟨by rfl,?_⟩) ?_ ?_;rotate_left
            ·
             intro w';go_simp;with_reducible rfl
            rotate_left
            ·
             simp only [Act.put,zzq,zzr,zzs,i64_w,i32_w];rfl
            refine pure_ (i:=10) (N:=some 56) (v:=?_) (a':=?_) (zzB 16 1029) rfl rfl (zzA2 HT_.out) (fun _ _ _ h=>h) (Or.inl ⟨by rfl,?_⟩) ?_ ?_;rotate_left
            ·
             intro w';go_simp;with_reducible rfl
            rotate_left
            ·
             simp only [Act.put,zzq,zzr,zzs,i64_w,i32_w];rfl
            refine take_ (i:=1) (N:=some 47) (v:=?_) (a':=?_) (zzB 16 1031) rfl rfl (take_ofW HT_.out HW_.out (by kernel_rfl)) (fun _ _ _ h=>h) (Or.inl ⟨by rfl,?_⟩) hHeld ?_ ?_;rotate_left
            ·
             rintro w' ⟨s0,s1,s2,s3,s4,s5,s6,s7,s8,s9,s10,s11⟩;go_simp;with_reducible rfl
            rotate_left
            ·
             simp only [Act.put,zzq,zzr,zzs,i64_w,i32_w];rfl
            refine take_ (i:=3) (N:=some 49) (v:=?_) (a':=?_) (zzB 16 1039) rfl rfl (take_ofW HT_.out HW_.out (by kernel_rfl)) (fun _ _ _ h=>h) (Or.inl ⟨by rfl,?_⟩) hHeld ?_ ?_;rotate_left
            ·
             rintro w' ⟨s0,s1,s2,s3,s4,s5,s6,s7,s8,s9,s10,s11⟩;go_simp;with_reducible rfl
            rotate_left
            ·
             simp only [Act.put,zzq,zzr,zzs,i64_w,i32_w];rfl
            refine pure_ (i:=4) (N:=some 50) (v:=?_) (a':=?_) (zzB 16 1055) rfl rfl (zzA2 HT_.out) (fun _ _ _ h=>h) (Or.inl ⟨by rfl,?_⟩) ?_ ?_;rotate_left
            ·
             intro w';go_simp;with_reducible rfl
            rotate_left
            ·
             simp only [Act.put,zzq,zzr,zzs,i64_w,i32_w];rfl
            refine pure_ (i:=5) (N:=some 51) (v:=?_) (a':=?_) (zzB 16 1087) rfl rfl (zzA2 HT_.out) (fun _ _ _ h=>h) (Or.inl ⟨by rfl,?_⟩) ?_ ?_;rotate_left
            ·
             intro w';go_simp;with_reducible rfl
            rotate_left
            ·
             simp only [Act.put,zzq,zzr,zzs,i64_w,i32_w];rfl
            refine pure_ (i:=6) (N:=some 52) (v:=?_) (a':=?_) (zzB 16 1151) rfl rfl (zzA2 HT_.out) (fun _ _ _ h=>h) (Or.inl ⟨by rfl,?_⟩) ?_ ?_;rotate_left
            ·
             intro w';go_simp;with_reducible rfl
            rotate_left
            ·
             simp only [Act.put,zzq,zzr,zzs,i64_w,i32_w];rfl
            refine pure_ (i:=7) (N:=some 53) (v:=?_) (a':=?_) (zzB 16 1279) rfl rfl (zzA2 HT_.out) (fun _ _ _ h=>h) (Or.inl ⟨by rfl,?_⟩) ?_ ?_;rotate_left
            ·
             intro w';go_simp;with_reducible rfl
            rotate_left
            ·
             simp only [Act.put,zzq,zzr,zzs,i64_w,i32_w];rfl
            refine take_ (i:=8) (N:=some 54) (v:=?_) (a':=?_) (zzB 16 1535) rfl rfl (take_ofW HT_.out HW_.out (by kernel_rfl)) (fun _ _ _ h=>h) (Or.inl ⟨by rfl,?_⟩) hHeld ?_ ?_;rotate_left
            ·
             rintro w' ⟨s0,s1,s2,s3,s4,s5,s6,s7,s8,s9,s10,s11⟩;go_simp;with_reducible rfl
            rotate_left
            ·
             simp only [Act.put,zzq,zzr,zzs,i64_w,i32_w];rfl
            refine pure_ (i:=9) (N:=some 55) (v:=?_) (a':=?_) (zzB 16 2047) rfl rfl (zzA2 HT_.out) (fun _ _ _ h=>h) (Or.inl ⟨by rfl,?_⟩) ?_ ?_;rotate_left
            ·
             intro w';go_simp;with_reducible rfl
            rotate_left
            ·
             simp only [Act.put,zzq,zzr,zzs,i64_w,i32_w];rfl
            refine one_ (i:=11) (N:=some 57) (zzB 16 4095) rfl rfl (one_of HT_.out (by kernel_rfl)) (by decide) (fun K hK=>?_);refine goes_ Try.func54 (by kernel_rfl) rfl #[.pointer (some ⟨g,0,none⟩),.int .i64 4] (by rfl) rfl rfl zzM2 ?_;with_reducible refine (Qd.calls kj20 g s0_0 x1001_20 4 t274 t275 w0 _ ?side1 ?side2 A55.out).mono ?_
            (case side1=>repeat (first|(with_reducible first|exact HI0.out|apply Qc.alloc|apply Qc.drewN|apply Qc.drew|apply Qc.set_1|refine Qc.far ?_ NB0_256.out _)|exact HI0.out))
            (case side2=>repeat (first|(with_reducible first|exact HB.out|apply zza|apply zzb|apply zzc|refine zzd ?_ (Qc.ge HI0.out)|refine zzd ?_ GE256.out)|exact HB.out));rintro e w60 ⟨rfl,hi,hb,hk⟩;have HS6_:=keep_cell hk (hHeld.2.2.2.2.2.2.1) (by first|(rw [add_block];exact Kd.own_blk (NQ_HO_257005.out))|(show (Addr.add _ _).block≠_;rw [add_block];exact Kd.own_blk (NQ_HO_257005.out))|exact Kd.own_blk (NQ_HO_257005.out));have HS7_:=keep_cell hk (hHeld.2.2.2.2.2.2.2.1) (by first|(rw [add_block];exact Kd.own_blk (NQ_HO_257005.out))|(show (Addr.add _ _).block≠_;rw [add_block];exact Kd.own_blk (NQ_HO_257005.out))|exact Kd.own_blk (NQ_HO_257005.out));have HS8_:=keep_cell hk (hHeld.2.2.2.2.2.2.2.2.1) (by first|(rw [add_block];exact Kd.own_blk (NQ_HO_257005.out))|(show (Addr.add _ _).block≠_;rw [add_block];exact Kd.own_blk (NQ_HO_257005.out))|exact Kd.own_blk (NQ_HO_257005.out));have HS9_:=keep_cell hk (hHeld.2.2.2.2.2.2.2.2.2.1) (by first|(rw [add_block];exact Kd.own_blk (NQ_HO_257005.out))|(show (Addr.add _ _).block≠_;rw [add_block];exact Kd.own_blk (NQ_HO_257005.out))|exact Kd.own_blk (NQ_HO_257005.out));have HS10_:=keep_cell hk (hHeld.2.2.2.2.2.2.2.2.2.2.1) (by first|(rw [add_block];exact Kd.own_blk (NQ_HO_257005.out))|(show (Addr.add _ _).block≠_;rw [add_block];exact Kd.own_blk (NQ_HO_257005.out))|exact Kd.own_blk (NQ_HO_257005.out));have HS11_:=keep_cell hk (hHeld.2.2.2.2.2.2.2.2.2.2.2) (by first|(rw [add_block];exact Kd.own_blk (NQ_HO_257005.out))|(show (Addr.add _ _).block≠_;rw [add_block];exact Kd.own_blk (NQ_HO_257005.out))|exact Kd.own_blk (NQ_HO_257005.out));refine ⟨_,rfl,?_⟩;have n0_:=zzm (KeepBut.blk hk (g':=gb256) (o:=.cells #[.bool t247,.bool t248,.int .i64 t249,.int .i64 t250,.int .i64 t251,.slice (some ad273) t252.length co26] 34 (0,0)) (zzE BK256.out) NB256_0.out (by simp));have n1_:=zzm (Kd.N_mono (Kd.N_keep (Kd.N_mono (ok:=fun k_=>(((w.heap.size≤k_))∧(k_≠gb256∧k_≠g))) (zzN HO272.out) (fun k_ hk_=>(⟨hk_,hk_.2.2⟩:_∧k_≠g))) hk (fun _ h=>h.2)) (fun _ h=>h.1));have n2_:=zzm (KeepBut.trans (by repeat (first|(with_reducible first|exact HK.out|apply KeepBut.set_|apply keep_drewN|apply keep_drew|apply keep_alloc|refine keep_far ?_ GW256.out _)|exact HK.out)) hk (.inl rfl));have n3_:=zzm (hb);have n4_:=zzm (hi);clear BK256 HO272 HK HB HI0;have BK256:=n0_;have HO272:=n1_;have HK:=n2_;have HB:=n3_;have HI0:=n4_;clear n0_ n1_ n2_ n3_ n4_
            (try clear hb)
            (try clear hb2)
            (try clear hk)
            (try clear hi);refine hK.out _ _ ⟨(zzk BK256.out 0).trans rfl,(zzk BK256.out 1).trans rfl,(zzk BK256.out 2).trans rfl,(zzk BK256.out 3).trans rfl,(zzk BK256.out 4).trans rfl,(zzk BK256.out 5).trans rfl,HS6_,HS7_,HS8_,HS9_,HS10_,HS11_⟩ (fun hHeld=>?_);clear hK K;refine norm_ (a':=?_) ?_ ?_;rotate_left
            ·
             show Act.put _ (some 57) _ = _;simp only [Act.put,zzq,zzr,zzs,i64_w,i32_w];rfl
            refine pure_ (i:=12) (N:=some 58) (v:=?_) (a':=?_) (zzB 16 8191) rfl rfl (zzA2 HT_.out) (fun _ _ _ h=>h) (Or.inl ⟨by rfl,?_⟩) ?_ ?_;rotate_left
            ·
             intro w';go_simp;with_reducible rfl
            rotate_left
            ·
             simp only [Act.put,zzq,zzr,zzs,i64_w,i32_w];rfl
            refine pure_ (i:=13) (N:=some 59) (v:=?_) (a':=?_) (zzB 16 16383) rfl rfl (zzA2 HT_.out) (fun _ _ _ h=>h) (Or.inl ⟨by rfl,?_⟩) ?_ ?_;rotate_left
            ·
             intro w';go_simp;with_reducible rfl
            rotate_left
            ·
             simp only [Act.put,zzq,zzr,zzs,i64_w,i32_w];rfl
            refine pure_ (i:=14) (N:=some 60) (v:=?_) (a':=?_) (zzB 16 32767) rfl rfl (zzA2 HT_.out) (fun _ _ _ h=>h) (Or.inl ⟨by rfl,?_⟩) ?_ ?_;rotate_left
            ·
             intro w';go_simp;with_reducible rfl
            rotate_left
            ·
             simp only [Act.put,zzq,zzr,zzs,i64_w,i32_w];rfl
            refine pure_ (i:=15) (N:=some 5) (v:=?_) (a':=?_) (zzB 16 65535) rfl rfl (zzA2 HT_.out) (fun _ _ _ h=>h) (Or.inl ⟨by rfl,?_⟩) ?_ ?_;rotate_left
            ·
             intro w';go_simp;with_reducible rfl
            rotate_left
            ·
             simp only [Act.put,zzq,zzr,zzs,i64_w,i32_w];rfl
            refine done_ (done_of HT_.out (by kernel_rfl)) ?_;try go_wp2
            go_roundg kj20
            case measure=>have:=HJ3.out;have:=HK2.out;have:=HJ20.out;omega
            case rel=>exact ⟨(y270),(wrap64 ((wrap64 (((Qb t252 (ji52)).f0)+1))+(wrap64 ((wrap64 (Int.tdiv t274 3)) * 2)))),(wrap64 (x6_2+1)),(t275),(by first|rfl|(simp;done)|(simp only [← hji52] <;> (first|rfl|simp))|(simp [*];done)),(by first|rfl|(simp;done)|(simp [*];done)),H',⟨by have:=HJ3.out;have:=HK2.out;have:=HJ20.out;omega⟩,⟨by (with_reducible repeat (first|apply Kd.N_alloc|apply Kd.N_drewN|apply Kd.N_drew));exact Kd.N_mono HO272.out (fun _ hk=>⟨hk.1,hk.2.2⟩)⟩,⟨by repeat (first|(with_reducible first|exact HI0.out|apply Qc.alloc|apply Qc.drewN|apply Qc.drew|apply Qc.set_1|refine Qc.far ?_ NB0_256.out _)|exact HI0.out)⟩,⟨by repeat (first|(with_reducible first|exact HK.out|apply KeepBut.set_|apply keep_drewN|apply keep_drew|apply keep_alloc|refine keep_far ?_ GW256.out _)|exact HK.out)⟩,⟨by repeat (first|(with_reducible first|exact HB.out|apply zza|apply zzb|apply zzc|refine zzd ?_ (Qc.ge HI0.out)|refine zzd ?_ GE256.out)|exact HB.out)⟩⟩
           ·
            rw [if_neg c54] at H;exact absurd H (by simp)
          ·
           rw [if_neg c53] at H;exact absurd H (by simp)
         ·
          rw [if_neg c51] at H;exact absurd H (by simp)
     ·
      rw [if_neg c19] at H;have c19b0:decide (x6_2 < x4_3)=false:=decide_eq_false c19;clear c19;by_cases c61:x4_3 > 1
      ·
       rw [if_pos c61] at H;have c61b0:decide (1 < x4_3)=true:=decide_eq_true c61;clear c61;replace H:=Option.bind_eq_some_iff.mp H;obtain ⟨⟨t243,t244⟩,A620,H⟩:=H;replace H:(if t243=0 then (if 0 < (x3_2.length:Int) then (if 1 < (x3_2.length:Int) then (some ((x3_2.set (1:Int).toNat (⟨(Qa x3_2 0).f0,(Qa x3_2 0).f1,(Qa x3_2 0).f2,(Qa x3_2 0).f3,(Qa x3_2 0).f4,(Qa x3_2 0).f5⟩:S34)),t244)) else (none)) else (none)) else (some (x3_2,t244)))=some (r1,r2):=H;have A62:=zzm A620;clear A620;by_cases c63:t243=0
       ·
        rw [if_pos c63] at H;have c63b0:(t243==0)=true:=beq_iff_eq.mpr c63;have c63b1:(t243 != 0)=false:=bne_eq_false_iff_eq.mpr c63;clear c63;by_cases c64 : 0 < (x3_2.length:Int)
        ·
         rw [if_pos c64] at H;have c64b0:decide (0 < (x3_2.length:Int))=true:=decide_eq_true c64;have c64b1:decide (0 < x3_2.length)=true:=decide_eq_true (by omega);clear c64;by_cases c65 : 1 < (x3_2.length:Int)
         ·
          rw [if_pos c65] at H;have c65b0:decide (1 < (x3_2.length:Int))=true:=decide_eq_true c65;have c65b1:decide (1 < x3_2.length)=true:=decide_eq_true (by omega);clear c65;obtain ⟨y246,hy246⟩:∃ y_:List (S34),y_=(x3_2.set (1:Int).toNat (⟨(Qa x3_2 0).f0,(Qa x3_2 0).f1,(Qa x3_2 0).f2,(Qa x3_2 0).f3,(Qa x3_2 0).f4,(Qa x3_2 0).f5⟩:S34)):=⟨_,rfl⟩;replace H:(some (y246,t244))=some (r1,r2):=by first|(rw [hy246];with_reducible exact H)|(have H2_:=(Option.bind_some _ _).symm.trans H;rw [hy246];with_reducible exact H2_)|(have H2_:=(Option.bind_some _ _).symm.trans H;with_reducible exact H2_)|with_reducible exact H|(rw [hy246];exact H)|exact H
          have Ny246:=zzm hy246;clear hy246;simp only [Option.some.injEq,Prod.mk.injEq] at H;obtain ⟨rfl,rfl⟩:=H;go_wp2_with (first|(go_at_call 54;(with_reducible refine (Qd.calls k2 g s0_0 x1001_2 30 t243 t244 w0 _ ?side1 ?side2 A62.out).mono ?_);(case side1=>repeat (first|(with_reducible first|exact HI0.out|apply Qc.alloc|apply Qc.drewN|apply Qc.drew|apply Qc.set_1)|exact HI0.out));(case side2=>repeat (first|(with_reducible first|exact HB.out|apply zza|apply zzb|apply zzc|refine zzd ?_ (Qc.ge HI0.out))|exact HB.out));rintro e w67 ⟨rfl,hi,hb,hk⟩;have n0_:=zzm (Kd.N_mono (Kd.N_keep (Kd.N_mono (ok:=fun k_=>(((w.heap.size≤k_))∧k_≠g)) (zzN HO_3.out) (fun k_ hk_=>(⟨hk_,hk_.2⟩:_∧k_≠g))) hk (fun _ h=>h.2)) (fun _ h=>h.1));have n1_:=zzm (KeepBut.trans (by repeat (first|(with_reducible first|exact HK.out|apply KeepBut.set_|apply keep_drewN|apply keep_drew|apply keep_alloc)|exact HK.out)) hk (.inl rfl));have n2_:=zzm (hb);have n3_:=zzm (hi);clear HO_3 HK HB HI0;have HO_3:=n0_;have HK:=n1_;have HB:=n2_;have HI0:=n3_;clear n0_ n1_ n2_ n3_;(try clear hb);(try clear hb2);(try clear hk);(try clear hi);obtain ⟨Ao68,co68,eo68⟩:=Kd.N_slice HO_3.out;subst eo68;have p245 : 0≤(0:Int):=(by omega);have q245 : 0 < (x3_2.length:Int):=zzt;obtain ⟨ad245,A245_5,c245_5,e245,hx245_0,hx245_1,hx245_2,hx245_3,hx245_4,hx245_5,hl245_5,hi245_5⟩:=Qw (Kd.N_reads' HO_3.out).2.2 0 p245 q245;cases e245;obtain ⟨ce245,hce245,hMe245,hcc245⟩:=Kd.N_get HO_3.out z34 0 p245 (by first|exact q245|exact zzt|(have e_:=(Kd.N_reads' HO_3.out).1;omega));obtain ⟨ua245_5,uc245_5,rfl,ul245_5,ge245_5⟩:=k34_openF hMe245;have hv245_5:=hcc245 5 _ rfl;rw [add_field _ _ 5 (by omega)] at hv245_5;replace hv245_5:=Option.some.inj (hv245_5.symm.trans hx245_5);injection hv245_5 with hva_ hvn_ hvc_;rw [hva_] at ge245_5;rw [hvc_] at ul245_5;have HL245_5:=zzm (show Kd.V k30 30 _ w.heap.size _ _ ((Qa x3_2 0).f5) from Kd.V_mk ul245_5 ge245_5);clear hva_ hvn_ hvc_ ge245_5 ul245_5 hcc245 hce245;have qi245:(0 < x3_2.length)=True:=eq_true (by omega);(try rw [show ((0:Int)).toNat=0 from rfl] at hx245_0);(try rw [show 0 * 6=0 from rfl] at hx245_0);(try rw [Addr.add_zero'] at hx245_0);(try rw [show ((0:Int)).toNat=0 from rfl] at hx245_1);(try rw [show 0 * 6=0 from rfl] at hx245_1);(try rw [Addr.add_zero'] at hx245_1);(try rw [show ((0:Int)).toNat=0 from rfl] at hx245_2);(try rw [show 0 * 6=0 from rfl] at hx245_2);(try rw [Addr.add_zero'] at hx245_2);(try rw [show ((0:Int)).toNat=0 from rfl] at hx245_3);(try rw [show 0 * 6=0 from rfl] at hx245_3);(try rw [Addr.add_zero'] at hx245_3);(try rw [show ((0:Int)).toNat=0 from rfl] at hx245_4);(try rw [show 0 * 6=0 from rfl] at hx245_4);(try rw [Addr.add_zero'] at hx245_4);(try rw [show ((0:Int)).toNat=0 from rfl] at hx245_5);(try rw [show 0 * 6=0 from rfl] at hx245_5);(try rw [Addr.add_zero'] at hx245_5);have HR245_5:=zzm hi245_5;have HC245_5:=zzm hl245_5;clear hi245_5 hl245_5;replace p245:=eq_true p245;replace q245:=eq_true q245;have p66 : 0≤(1:Int):=(by omega);have q66:(1:Int) < ((x3_2.length:Int):Int):=zzt;have qi66:(1 < x3_2.length)=True:=eq_true (by omega);obtain ⟨go66,co66,eo66,gb66,gl66,cl66,HG66⟩:=Kd.N_form HO_3.out (by omega);(first|cases eo66|(injection eo66 with ea_ en_ ec_;(first|subst ea_|(injection ea_ with ea_;subst ea_));subst ec_;clear en_));have GB66:=zzm gb66;have GG66:=zzm HG66;clear gb66 gl66 HG66;(first|simp only [add_plain] at hx245_0|skip);(first|simp only [add_plain] at hx245_1|skip);(first|simp only [add_plain] at hx245_2|skip);(first|simp only [add_plain] at hx245_3|skip);(first|simp only [add_plain] at hx245_4|skip);(first|simp only [add_plain] at hx245_5|skip);obtain ⟨ce66,hcl66,hM66,hcc66,hfr66⟩:=Kd.N_elem HO_3.out z34 (1:Int) p66 q66;obtain ⟨ua66_5,uc66_5,rfl,ul66_5,ge66_5⟩:=k34_openF hM66;have hx66_0:w67.cell? ⟨go66,(1:Int).toNat * 6,none⟩=some (.bool ((Qa x3_2 1).f0)):=hcc66 0 _ rfl;have hx66_1:w67.cell? ⟨go66,(1:Int).toNat * 6+1,none⟩=some (.bool ((Qa x3_2 1).f1)):=hcc66 1 _ rfl;have hx66_2:w67.cell? ⟨go66,(1:Int).toNat * 6+2,none⟩=some (.int .i64 ((Qa x3_2 1).f2)):=hcc66 2 _ rfl;have hx66_3:w67.cell? ⟨go66,(1:Int).toNat * 6+3,none⟩=some (.int .i64 ((Qa x3_2 1).f3)):=hcc66 3 _ rfl;have hx66_4:w67.cell? ⟨go66,(1:Int).toNat * 6+4,none⟩=some (.int .i64 ((Qa x3_2 1).f4)):=hcc66 4 _ rfl;have hx66_5:w67.cell? ⟨go66,(1:Int).toNat * 6+5,none⟩=some (.slice ua66_5 ((Qa x3_2 1).f5).length uc66_5):=hcc66 5 _ rfl;have hf66_0:w67.frozen? ⟨go66,(1:Int).toNat * 6,none⟩=false:=hfr66 0;have hf66_1:w67.frozen? ⟨go66,(1:Int).toNat * 6+1,none⟩=false:=hfr66 1;have hf66_2:w67.frozen? ⟨go66,(1:Int).toNat * 6+2,none⟩=false:=hfr66 2;have hf66_3:w67.frozen? ⟨go66,(1:Int).toNat * 6+3,none⟩=false:=hfr66 3;have hf66_4:w67.frozen? ⟨go66,(1:Int).toNat * 6+4,none⟩=false:=hfr66 4;have hf66_5:w67.frozen? ⟨go66,(1:Int).toNat * 6+5,none⟩=false:=hfr66 5;clear hcl66 hcc66 hfr66 hM66;(try rw [show ((1:Int)).toNat=1 from rfl] at hx66_0);(try simp only [Nat.reduceMul,Nat.zero_mul,Nat.zero_add,Nat.reduceAdd] at hx66_0);(try rw [show ((1:Int)).toNat=1 from rfl] at hf66_0);(try simp only [Nat.reduceMul,Nat.zero_mul,Nat.zero_add,Nat.reduceAdd] at hf66_0);(try rw [show ((1:Int)).toNat=1 from rfl] at hx66_1);(try simp only [Nat.reduceMul,Nat.zero_mul,Nat.zero_add,Nat.reduceAdd] at hx66_1);(try rw [show ((1:Int)).toNat=1 from rfl] at hf66_1);(try simp only [Nat.reduceMul,Nat.zero_mul,Nat.zero_add,Nat.reduceAdd] at hf66_1);(try rw [show ((1:Int)).toNat=1 from rfl] at hx66_2);(try simp only [Nat.reduceMul,Nat.zero_mul,Nat.zero_add,Nat.reduceAdd] at hx66_2);(try rw [show ((1:Int)).toNat=1 from rfl] at hf66_2);(try simp only [Nat.reduceMul,Nat.zero_mul,Nat.zero_add,Nat.reduceAdd] at hf66_2);(try rw [show ((1:Int)).toNat=1 from rfl] at hx66_3);(try simp only [Nat.reduceMul,Nat.zero_mul,Nat.zero_add,Nat.reduceAdd] at hx66_3);(try rw [show ((1:Int)).toNat=1 from rfl] at hf66_3);(try simp only [Nat.reduceMul,Nat.zero_mul,Nat.zero_add,Nat.reduceAdd] at hf66_3);(try rw [show ((1:Int)).toNat=1 from rfl] at hx66_4);(try simp only [Nat.reduceMul,Nat.zero_mul,Nat.zero_add,Nat.reduceAdd] at hx66_4);(try rw [show ((1:Int)).toNat=1 from rfl] at hf66_4);(try simp only [Nat.reduceMul,Nat.zero_mul,Nat.zero_add,Nat.reduceAdd] at hf66_4);(try rw [show ((1:Int)).toNat=1 from rfl] at hx66_5);(try simp only [Nat.reduceMul,Nat.zero_mul,Nat.zero_add,Nat.reduceAdd] at hx66_5);(try rw [show ((1:Int)).toNat=1 from rfl] at hf66_5);(try simp only [Nat.reduceMul,Nat.zero_mul,Nat.zero_add,Nat.reduceAdd] at hf66_5);replace p66:=eq_true p66;replace q66:=eq_true q66;have HX69:=zzm (show Kd.N k34 34 w67 w.heap.size (fun k_=>(w.heap.size≤k_)∧k_≠g) (.slice (some ⟨go66,0,none⟩) x3_2.length co68) x3_2 from (zzN HO_3.out));obtain ⟨ce69,hcl69,hM69,hcc69,hfr69⟩:=Kd.N_elem HX69.out z34 (1:Int) (by omega) (by have h_:(1:Int) < ((x3_2.length:Int):Int):=zzt;first|exact h_|(have e_:=(Kd.N_reads' HO_3.out).1;omega)|simpa using h_);obtain ⟨ua69_5,uc69_5,rfl,ul69_5,ge69_5⟩:=k34_openF hM69;have HP69:=Kd.N_seg HX69.out (1:Int) (by omega) (by have h_:(1:Int) < ((x3_2.length:Int):Int):=zzt;first|exact h_|(have e_:=(Kd.N_reads' HO_3.out).1;omega)|simpa using h_) (seg:=[.bool ((Qa x3_2 0).f0),.bool ((Qa x3_2 0).f1),.int .i64 ((Qa x3_2 0).f2),.int .i64 ((Qa x3_2 0).f3),.int .i64 ((Qa x3_2 0).f4),.slice A245_5 ((Qa x3_2 0).f5).length c245_5]) (j:=0) hcl69 hcc69 (show 6≤6 from by decide) (x':=(⟨(Qa x3_2 0).f0,(Qa x3_2 0).f1,(Qa x3_2 0).f2,(Qa x3_2 0).f3,(Qa x3_2 0).f4,(Qa x3_2 0).f5⟩:S34)) (k34_mkF _ _ (⟨(Qa x3_2 0).f0,(Qa x3_2 0).f1,(Qa x3_2 0).f2,(Qa x3_2 0).f3,(Qa x3_2 0).f4,(Qa x3_2 0).f5⟩:S34) (Kd.V_reads' (Kd.V_mono (ok':=(fun k_=>((fun k_=>(w.heap.size≤k_)∧k_≠g)) k_∧k_≠go66)) (HL245_5.out) (fun k_ hk=>⟨⟨hk.1.1,hk.1.2⟩,fun e_=>(hk.2) (by rw [e_];rfl)⟩))).2.1 (Kd.V_F (Kd.V_mono (ok':=(fun k_=>((fun k_=>(w.heap.size≤k_)∧k_≠g)) k_∧k_≠go66)) (HL245_5.out) (fun k_ hk=>⟨⟨hk.1.1,hk.1.2⟩,fun e_=>(hk.2) (by rw [e_];rfl)⟩)))) (fun _ hk=>hk);have hx69_0:=hcc69 0 _ rfl;(try simp only [show (k34).sz=6 from rfl,Nat.mul_one,Nat.add_zero] at hx69_0);(try rw [show ((1:Int)).toNat=1 from rfl] at hx69_0);(try simp only [Nat.reduceMul,Nat.zero_mul,Nat.zero_add,Nat.reduceAdd] at hx69_0);have hf69_0:=hfr69 0;(try simp only [show (k34).sz=6 from rfl,Nat.mul_one,Nat.add_zero] at hf69_0);(try rw [show ((1:Int)).toNat=1 from rfl] at hf69_0);(try simp only [Nat.reduceMul,Nat.zero_mul,Nat.zero_add,Nat.reduceAdd] at hf69_0);have hx69_1:=hcc69 1 _ rfl;(try simp only [show (k34).sz=6 from rfl,Nat.mul_one,Nat.add_zero] at hx69_1);(try rw [show ((1:Int)).toNat=1 from rfl] at hx69_1);(try simp only [Nat.reduceMul,Nat.zero_mul,Nat.zero_add,Nat.reduceAdd] at hx69_1);have hf69_1:=hfr69 1;(try simp only [show (k34).sz=6 from rfl,Nat.mul_one,Nat.add_zero] at hf69_1);(try rw [show ((1:Int)).toNat=1 from rfl] at hf69_1);(try simp only [Nat.reduceMul,Nat.zero_mul,Nat.zero_add,Nat.reduceAdd] at hf69_1);have hx69_2:=hcc69 2 _ rfl;(try simp only [show (k34).sz=6 from rfl,Nat.mul_one,Nat.add_zero] at hx69_2);(try rw [show ((1:Int)).toNat=1 from rfl] at hx69_2);(try simp only [Nat.reduceMul,Nat.zero_mul,Nat.zero_add,Nat.reduceAdd] at hx69_2);have hf69_2:=hfr69 2;(try simp only [show (k34).sz=6 from rfl,Nat.mul_one,Nat.add_zero] at hf69_2);(try rw [show ((1:Int)).toNat=1 from rfl] at hf69_2);(try simp only [Nat.reduceMul,Nat.zero_mul,Nat.zero_add,Nat.reduceAdd] at hf69_2);have hx69_3:=hcc69 3 _ rfl;(try simp only [show (k34).sz=6 from rfl,Nat.mul_one,Nat.add_zero] at hx69_3);(try rw [show ((1:Int)).toNat=1 from rfl] at hx69_3);(try simp only [Nat.reduceMul,Nat.zero_mul,Nat.zero_add,Nat.reduceAdd] at hx69_3);have hf69_3:=hfr69 3;(try simp only [show (k34).sz=6 from rfl,Nat.mul_one,Nat.add_zero] at hf69_3);(try rw [show ((1:Int)).toNat=1 from rfl] at hf69_3);(try simp only [Nat.reduceMul,Nat.zero_mul,Nat.zero_add,Nat.reduceAdd] at hf69_3);have hx69_4:=hcc69 4 _ rfl;(try simp only [show (k34).sz=6 from rfl,Nat.mul_one,Nat.add_zero] at hx69_4);(try rw [show ((1:Int)).toNat=1 from rfl] at hx69_4);(try simp only [Nat.reduceMul,Nat.zero_mul,Nat.zero_add,Nat.reduceAdd] at hx69_4);have hf69_4:=hfr69 4;(try simp only [show (k34).sz=6 from rfl,Nat.mul_one,Nat.add_zero] at hf69_4);(try rw [show ((1:Int)).toNat=1 from rfl] at hf69_4);(try simp only [Nat.reduceMul,Nat.zero_mul,Nat.zero_add,Nat.reduceAdd] at hf69_4);have hx69_5:=hcc69 5 _ rfl;(try simp only [show (k34).sz=6 from rfl,Nat.mul_one,Nat.add_zero] at hx69_5);(try rw [show ((1:Int)).toNat=1 from rfl] at hx69_5);(try simp only [Nat.reduceMul,Nat.zero_mul,Nat.zero_add,Nat.reduceAdd] at hx69_5);have hf69_5:=hfr69 5;(try simp only [show (k34).sz=6 from rfl,Nat.mul_one,Nat.add_zero] at hf69_5);(try rw [show ((1:Int)).toNat=1 from rfl] at hf69_5);(try simp only [Nat.reduceMul,Nat.zero_mul,Nat.zero_add,Nat.reduceAdd] at hf69_5);clear hcl69 hcc69 hfr69 hM69)|((with_reducible refine gate_store (t:=34) (p:=72) rfl ?_);refine store_event (t:=34) (p:=72) (v:=?vo_w70) (w1:=((((((w67.setCell ⟨go66,6,none⟩ (.bool ((Qa x3_2 0).f0))).setCell ⟨go66,7,none⟩ (.bool ((Qa x3_2 0).f1))).setCell ⟨go66,8,none⟩ (.int .i64 ((Qa x3_2 0).f2))).setCell ⟨go66,9,none⟩ (.int .i64 ((Qa x3_2 0).f3))).setCell ⟨go66,10,none⟩ (.int .i64 ((Qa x3_2 0).f4))).setCell ⟨go66,11,none⟩ (.slice A245_5 ((Qa x3_2 0).f5).length c245_5))) ?hg ?ho ?hn ?hr ?_;(case ho=>rfl);(case hg=>rfl);(case hn=>rfl);(case hr=>first|(go_simp;done)|(go_simp;rfl));intro w70 hw;have hg:w67.grownBy w70 (some go66):=(by rw [hw];exact HP69.2);have hp_:Kd.N k34 34 w70 w.heap.size (fun k_=>(w.heap.size≤k_)∧k_≠g) (.slice (some ⟨go66,0,none⟩) x3_2.length co68) y246:=(by rw [hw,Ny246.out];exact HP69.1);clear HP69;have n0_:=zzm (hp_);have n1_:=zzm (Qc.grown (by repeat (first|(with_reducible first|exact HI0.out|apply Qc.alloc|apply Qc.drewN|apply Qc.drew|apply Qc.set_1)|exact HI0.out)) hg (Qc.own_neN HI0.out HO_3.out (by decide)));have n2_:=zzm (Kd.V_afterv (v:=(.slice (some ⟨go66,0,none⟩) x3_2.length co68)) (v1:=(.slice (some ⟨go66,0,none⟩) x3_2.length co68)) (ok:=(fun k_=>(w.heap.size≤k_)∧k_≠g)) (zzV HL245_5.out) hg (.inl rfl));have n3_:=zzm ((by rw [hw];exact zzd (zzd (zzd (zzd (zzd (zzd (HB.out) (Nat.le_trans HL.out GB66.out)) (Nat.le_trans HL.out GB66.out)) (Nat.le_trans HL.out GB66.out)) (Nat.le_trans HL.out GB66.out)) (Nat.le_trans HL.out GB66.out)) (Nat.le_trans HL.out GB66.out):Below w0.heap.size w0 w70));have n4_:=zzm (KeepBut.trans (by repeat (first|(with_reducible first|exact HK.out|apply KeepBut.set_|apply keep_drewN|apply keep_drew|apply keep_alloc)|exact HK.out)) (KeepBut.of_grown hg g) (Kd.N_base2 HO_3.out));clear HO_3 HI0 HL245_5 HB HK;have HO_3:=n0_;have HI0:=n1_;have HL245_5:=n2_;have HB:=n3_;have HK:=n4_;clear n0_ n1_ n2_ n3_ n4_ hg hw hp_));go_ret;exact ⟨_,by first|rfl|(simp [errW_none,errW_some] <;> rfl)|(simp [*,errW_none,errW_some] <;> rfl),by (with_reducible repeat (first|apply Kd.N_alloc|apply Kd.N_drewN|apply Kd.N_drew));exact Kd.N_mono HO_3.out (fun _ hk=>hk.1),by repeat (first|(with_reducible first|exact HI0.out|apply Qc.alloc|apply Qc.drewN|apply Qc.drew|apply Qc.set_1)|exact HI0.out),by repeat (first|(with_reducible first|exact HB.out|apply zza|apply zzb|apply zzc|refine zzd ?_ (Qc.ge HI0.out))|exact HB.out),by repeat (first|(with_reducible first|exact HK.out|apply KeepBut.set_|apply keep_drewN|apply keep_drew|apply keep_alloc)|exact HK.out)⟩
         ·
          rw [if_neg c65] at H;exact absurd H (by simp)
        ·
         rw [if_neg c64] at H;exact absurd H (by simp)
       ·
        rw [if_neg c63] at H;have c63b0:(t243==0)=false:=beq_eq_false_iff_ne.mpr c63;have c63b1:(t243 != 0)=true:=bne_iff_ne.mpr c63;simp only [Option.some.injEq,Prod.mk.injEq] at H;obtain ⟨rfl,rfl⟩:=H;go_wp2_with (first|(go_at_call 54;(with_reducible refine (Qd.calls k2 g s0_0 x1001_2 30 t243 t244 w0 _ ?side1 ?side2 A62.out).mono ?_);(case side1=>repeat (first|(with_reducible first|exact HI0.out|apply Qc.alloc|apply Qc.drewN|apply Qc.drew|apply Qc.set_1)|exact HI0.out));(case side2=>repeat (first|(with_reducible first|exact HB.out|apply zza|apply zzb|apply zzc|refine zzd ?_ (Qc.ge HI0.out))|exact HB.out));rintro e w71 ⟨rfl,hi,hb,hk⟩;have n0_:=zzm (Kd.N_mono (Kd.N_keep (Kd.N_mono (ok:=fun k_=>(((w.heap.size≤k_))∧k_≠g)) (zzN HO_3.out) (fun k_ hk_=>(⟨hk_,hk_.2⟩:_∧k_≠g))) hk (fun _ h=>h.2)) (fun _ h=>h.1));have n1_:=zzm (KeepBut.trans (by repeat (first|(with_reducible first|exact HK.out|apply KeepBut.set_|apply keep_drewN|apply keep_drew|apply keep_alloc)|exact HK.out)) hk (.inl rfl));have n2_:=zzm (hb);have n3_:=zzm (hi);clear HO_3 HK HB HI0;have HO_3:=n0_;have HK:=n1_;have HB:=n2_;have HI0:=n3_;clear n0_ n1_ n2_ n3_;(try clear hb);(try clear hb2);(try clear hk);(try clear hi)));go_ret;exact ⟨_,by first|rfl|(simp [errW_none,errW_some] <;> rfl)|(simp [*,errW_none,errW_some] <;> rfl),by (with_reducible repeat (first|apply Kd.N_alloc|apply Kd.N_drewN|apply Kd.N_drew));exact Kd.N_mono HO_3.out (fun _ hk=>hk.1),by repeat (first|(with_reducible first|exact HI0.out|apply Qc.alloc|apply Qc.drewN|apply Qc.drew|apply Qc.set_1)|exact HI0.out),by repeat (first|(with_reducible first|exact HB.out|apply zza|apply zzb|apply zzc|refine zzd ?_ (Qc.ge HI0.out))|exact HB.out),by repeat (first|(with_reducible first|exact HK.out|apply KeepBut.set_|apply keep_drewN|apply keep_drew|apply keep_alloc)|exact HK.out)⟩
      ·
       rw [if_neg c61] at H;have c61b0:decide (1 < x4_3)=false:=decide_eq_false c61;clear c61;simp only [Option.some.injEq,Prod.mk.injEq] at H;obtain ⟨rfl,rfl⟩:=H;go_wp2;go_ret;exact ⟨_,by first|rfl|(simp [errW_none,errW_some] <;> rfl)|(simp [*,errW_none,errW_some] <;> rfl),by (with_reducible repeat (first|apply Kd.N_alloc|apply Kd.N_drewN|apply Kd.N_drew));exact Kd.N_mono HO_3.out (fun _ hk=>hk.1),by repeat (first|(with_reducible first|exact HI0.out|apply Qc.alloc|apply Qc.drewN|apply Qc.drew|apply Qc.set_1)|exact HI0.out),by repeat (first|(with_reducible first|exact HB.out|apply zza|apply zzb|apply zzc|refine zzd ?_ (Qc.ge HI0.out))|exact HB.out),by repeat (first|(with_reducible first|exact HK.out|apply KeepBut.set_|apply keep_drewN|apply keep_drew|apply keep_alloc)|exact HK.out)⟩
def Ri.f (l0:List Int):Option (List Int×Int):=if (l0.length:Int) > 2000 then (if 2000≤(l0.length:Int) then (some (l0.take 2000,0)) else (none)) else (some (l0,0))
set_option maxHeartbeats 8000000 in
set_option maxRecDepth 100000 in
theorem Ri.calls (A0:Option Addr) (c0:Nat) (l0:List Int) (r1:List Int) (r2:Int) (w0 w:World) (hB:Below w0.heap.size w0 w) (hr0:Kd.C (Kd.int .u8) w0 A0 l0.length l0) (hc0:l0.length≤c0) (h:Ri.f l0=some (r1,r2)) :
  Calls Try.prog 39 #[.slice A0 l0.length c0] w fun e w'=>∃ g_:Nat,e = .returned (.pointer (some ⟨g_,0,none⟩))∧Qc w0 w' g_ r1 r2∧Below w0.heap.size w0 w'∧Below w.heap.size w w':=by
 have hu79:=Try.underlying79;have HR0:=zzm hr0;have HC0:=zzm hc0;clear hr0 hc0;have HBW:=zzm (Below.refl w.heap.size w);have HW0:=zzm hB.size;have HB:=zzm hB;clear hB;have H:(if (l0.length:Int) > 2000 then (if 2000≤(l0.length:Int) then (some (l0.take 2000,0)) else (none)) else (some (l0,0)))=some (r1,r2):=h;clear h;by_cases c2:(l0.length:Int) > 2000
 ·
  rw [if_pos c2] at H;have c2b0:decide (2000 < (l0.length:Int))=true:=decide_eq_true c2;have c2b1:decide (2000 < l0.length)=true:=decide_eq_true (by omega);clear c2;by_cases c3 : 2000≤(l0.length:Int)
  ·
   rw [if_pos c3] at H;have c3b0:=eq_true c3;have c3b1:decide (2000≤(l0.length:Int))=true:=decide_eq_true c3;clear c3;simp only [Option.some.injEq,Prod.mk.injEq] at H;obtain ⟨rfl,rfl⟩:=H;obtain ⟨i04,hi04,_,hsz4,_⟩:=info_parts info5;obtain ⟨hcut4,hA4,hC4⟩:=print_take_of (P:=Try.prog) (Value.int .u8) 0 22 5 .i64 Try.underlying22 hi04 hsz4 A0 c0 l0 2000 (by omega) (zzt) HC0.out;have HR276:=zzm (Kd.C_of_reads (h1:=fun _=>rfl) (hA4 _ (Kd.reads_of_C HR0.out)));have HC276:=zzm hC4;clear hA4 hC4 hi04 hsz4;go_enter Try.func39,Try.ntmps39;go_wp2_with (first|((with_reducible refine gate_dst (N:=10) rfl ?_);refine box_event ?hg (N:=10) ?hd (cs:=#[.slice A0 (l0.take 2000).length c0,.int .i64 0]) (t:=79) ?hr ?_;(case hd=>rfl);(case hg=>rfl);(case hr=>first|(go_simp;done)|(go_simp;rfl));intro gb277 hg w5 hbox hb;have n0_:=zzm (zzp HBW.out hb);have n1_:=zzm (zzp zzh1 hb);have n2_:=zzm (hbox);have n3_:=zzm ((by rw [hg];exact (zzo (by repeat (first|(with_reducible first|exact HBW.out|apply zza|apply zzb|apply zzc)|exact HBW.out))):w.heap.size≤gb277));have n4_:=zzm ((Nat.le_trans HW0.out (by rw [hg];exact (zzo (by repeat (first|(with_reducible first|exact HBW.out|apply zza|apply zzb|apply zzc)|exact HBW.out))):w.heap.size≤gb277):w0.heap.size≤gb277));clear HBW HB;have HBW:=n0_;have HB:=n1_;have BK277:=n2_;have GW277:=n3_;have GE277:=n4_;clear n0_ n1_ n2_ n3_ n4_ hb hbox hg));go_ret;exact ⟨_,rfl,(show Qc w0 _ gb277 (l0.take 2000) 0 from ⟨_,_,by (with_reducible repeat (first|apply zzf|apply zzg|apply zze));exact BK277.out,GE277.out,HR276.out⟩),by repeat (first|(with_reducible first|exact HB.out|apply zza|apply zzb|apply zzc|refine zzd ?_ GE277.out)|exact HB.out),by repeat (first|(with_reducible first|exact HBW.out|apply zza|apply zzb|apply zzc|refine zzd ?_ GW277.out)|exact HBW.out)⟩
  ·
   rw [if_neg c3] at H;exact absurd H (by simp)
 ·
  rw [if_neg c2] at H;have c2b0:decide (2000 < (l0.length:Int))=false:=decide_eq_false c2;have c2b1:decide (2000 < l0.length)=false:=decide_eq_false (by omega);clear c2;simp only [Option.some.injEq,Prod.mk.injEq] at H;obtain ⟨rfl,rfl⟩:=H;go_enter Try.func39,Try.ntmps39;go_wp2_with (first|((with_reducible refine gate_dst (N:=10) rfl ?_);refine box_event ?hg (N:=10) ?hd (cs:=#[.slice A0 l0.length c0,.int .i64 0]) (t:=79) ?hr ?_;(case hd=>rfl);(case hg=>rfl);(case hr=>first|(go_simp;done)|(go_simp;rfl));intro gb278 hg w6 hbox hb;have n0_:=zzm (zzp HBW.out hb);have n1_:=zzm (zzp zzh1 hb);have n2_:=zzm (hbox);have n3_:=zzm ((by rw [hg];exact (zzo (by repeat (first|(with_reducible first|exact HBW.out|apply zza|apply zzb|apply zzc)|exact HBW.out))):w.heap.size≤gb278));have n4_:=zzm ((Nat.le_trans HW0.out (by rw [hg];exact (zzo (by repeat (first|(with_reducible first|exact HBW.out|apply zza|apply zzb|apply zzc)|exact HBW.out))):w.heap.size≤gb278):w0.heap.size≤gb278));clear HBW HB;have HBW:=n0_;have HB:=n1_;have BK278:=n2_;have GW278:=n3_;have GE278:=n4_;clear n0_ n1_ n2_ n3_ n4_ hb hbox hg));go_ret;exact ⟨_,rfl,(show Qc w0 _ gb278 l0 0 from ⟨_,_,by (with_reducible repeat (first|apply zzf|apply zzg|apply zze));exact BK278.out,GE278.out,HR0.out⟩),by repeat (first|(with_reducible first|exact HB.out|apply zza|apply zzb|apply zzc|refine zzd ?_ GE278.out)|exact HB.out),by repeat (first|(with_reducible first|exact HBW.out|apply zza|apply zzb|apply zzc|refine zzd ?_ GW278.out)|exact HBW.out)⟩
def Q5.f (k:Nat) (l0:List Int):Option ((List (S34))):=(Ri.f l0).bind fun bt279=>((Qh.f k bt279.1 bt279.2).bind fun bt282=>(some bt282.1))
set_option maxHeartbeats 8000000 in
set_option maxRecDepth 100000 in
theorem Q5.calls (k:Nat) (A0:Option Addr) (c0:Nat) (l0:List Int) (r:List (S34)) (w:World) (hr0:Kd.C (Kd.int .u8) w A0 l0.length l0) (hc0:l0.length≤c0) (h:Q5.f k l0=some r) :
  Calls Try.prog 15 #[.slice A0 l0.length c0] w fun e w'=>∃ v0_:Value,e = .returned (v0_)∧Kd.N k34 34 w' w.heap.size (fun k_=>(w.heap.size≤k_)) v0_ r∧Below w.heap.size w w':=by
 have HR0:=zzm hr0;have HC0:=zzm hc0;clear hr0 hc0;have HB:=zzm (Below.refl w.heap.size w);have H:((Ri.f l0).bind fun bt279=>((Qh.f k bt279.1 bt279.2).bind fun bt282=>(some bt282.1)))=some r:=h;clear h;replace H:=Option.bind_eq_some_iff.mp H;obtain ⟨⟨t279,t280⟩,A20,H⟩:=H;replace H:((Qh.f k t279 t280).bind fun bt282=>(some bt282.1))=some r:=H;have A2:=zzm A20;clear A20;replace H:=Option.bind_eq_some_iff.mp H;obtain ⟨⟨t282,t285⟩,A30,H⟩:=H;replace H:(some t282)=some r:=H;have A3:=zzm A30;clear A30;obtain rfl:=Option.some.inj H;go_enter Try.func15,Try.ntmps15;go_wp2_with (first|((with_reducible refine gate_callee (f:=39) rfl ?_);refine goesL_ (some 4) rfl rfl Try.func39 (by kernel_rfl) rfl #[.slice A0 l0.length c0] rfl zzM2 ?_;(with_reducible refine (Ri.calls _ _ l0 t279 t280 w _ ?side1 ?side2 ?side3 A2.out).mono ?_);(case side1=>repeat (first|(with_reducible first|exact HB.out|apply zza|apply zzb|apply zzc)|exact HB.out));(case side2=>exact HR0.out);(case side3=>exact HC0.out);rintro e w4 ⟨g281,rfl,hi,hb,hb2⟩;refine ⟨_,rfl,?_⟩;have n0_:=zzm (hb);have n1_:=zzm (hi);clear HB;have HB:=n0_;have HI281:=n1_;clear n0_ n1_;(try clear hb);(try clear hb2);(try clear hk);(try clear hi))|((with_reducible refine gate_callee (f:=38) rfl ?_);refine goesL_ (some 5) rfl rfl Try.func38 (by kernel_rfl) rfl #[.pointer (some ⟨g281,0,none⟩)] rfl zzM2 ?_;(with_reducible refine (Qh.calls k g281 t279 t280 t282 t285 w _ ?side1 ?side2 A3.out).mono ?_);(case side1=>repeat (first|(with_reducible first|exact HI281.out|apply Qc.alloc|apply Qc.drewN|apply Qc.drew|apply Qc.set_1)|exact HI281.out));(case side2=>repeat (first|(with_reducible first|exact HB.out|apply zza|apply zzb|apply zzc|refine zzd ?_ (Qc.ge HI281.out))|exact HB.out));rintro e w5 ⟨v283,rfl,ho0,hi,hb,hk⟩;refine ⟨_,rfl,?_⟩;have n0_:=zzm (Kd.N_lower (Kd.N_mono (ok':=fun k_=>(w.heap.size≤k_)∧k_≠g281) ho0 (fun k_ hk_=>⟨(Nat.le_trans (zzo (by repeat (first|(with_reducible first|exact HB.out|apply zza|apply zzb|apply zzc|refine zzd ?_ (Qc.ge HI281.out))|exact HB.out))) hk_),(Qc.fresh (by repeat (first|(with_reducible first|exact HI281.out|apply Qc.alloc|apply Qc.drewN|apply Qc.drew|apply Qc.set_1)|exact HI281.out)) k_ hk_)⟩)) (zzo (by repeat (first|(with_reducible first|exact HB.out|apply zza|apply zzb|apply zzc|refine zzd ?_ (Qc.ge HI281.out))|exact HB.out))));have n1_:=zzm (hb);have n2_:=zzm (hi);clear HB HI281;have HO284:=n0_;have HB:=n1_;have HI281:=n2_;clear n0_ n1_ n2_;(try clear hb);(try clear hb2);(try clear hk);(try clear hi);(try clear ho0)));go_ret;exact ⟨_,by first|rfl|(simp [errW_none,errW_some] <;> rfl)|(simp [*,errW_none,errW_some] <;> rfl),by (with_reducible repeat (first|apply Kd.N_alloc|apply Kd.N_drewN|apply Kd.N_drew));exact Kd.N_mono HO284.out (fun _ hk=>hk.1),by repeat (first|(with_reducible first|exact HB.out|apply zza|apply zzb|apply zzc|refine zzd ?_ (Qc.ge HI281.out))|exact HB.out)⟩
def Qs.f (a0:Int) (a1:Int) (a2:Int):Option (Bool):=if a0 ≥ a1 then (some (decide (a0≤a2))) else (some false)
set_option maxHeartbeats 8000000 in
set_option maxRecDepth 100000 in
theorem Qs.calls (a0:Int) (a1:Int) (a2:Int) (r:Bool) (w:World) (h:Qs.f a0 a1 a2=some r) :
  Calls Try.prog 78 #[.int .i64 a0,.int .i64 a1,.int .i64 a2] w fun e w'=>e = .returned (.bool r)∧Drawn0 w w':=by
 have H:(if a0 ≥ a1 then (some (decide (a0≤a2))) else (some false))=some r:=h;clear h;by_cases c4:a0 ≥ a1
 ·
  rw [if_pos c4] at H;have c4b0:decide (a1≤a0)=true:=decide_eq_true c4;clear c4;obtain rfl:=Option.some.inj H;go_enter Try.func78,Try.ntmps78;go_wp2;go_ret;exact ⟨by first|rfl|(simp;done)|(simp [*];done),by repeat (first|exact Drawn0.refl _|apply Drawn0.step)⟩
 ·
  rw [if_neg c4] at H;have c4b0:decide (a1≤a0)=false:=decide_eq_false c4;clear c4;obtain rfl:=Option.some.inj H;go_enter Try.func78,Try.ntmps78;go_wp2;go_ret;exact ⟨by first|rfl|(simp;done)|(simp [*];done),by repeat (first|exact Drawn0.refl _|apply Drawn0.step)⟩
def Ra.f (a0:Int):Option (Bool):=(Qs.f a0 0 254).bind fun t286=>(some t286)
set_option maxHeartbeats 8000000 in
set_option maxRecDepth 100000 in
theorem Ra.calls (a0:Int) (r:Bool) (w:World) (h:Ra.f a0=some r) :
  Calls Try.prog 77 #[.int .i64 a0] w fun e w'=>e = .returned (.bool r)∧Drawn0 w w':=by
 have H:((Qs.f a0 0 254).bind fun t286=>(some t286))=some r:=h;clear h;replace H:=Option.bind_eq_some_iff.mp H;obtain ⟨t286,A20,H⟩:=H;replace H:(some t286)=some r:=H;have A2:=zzm A20;clear A20;obtain rfl:=Option.some.inj H;go_enter Try.func77,Try.ntmps77;go_wp2_with (first|((with_reducible refine gate_callee (f:=78) rfl ?_);refine goesL_ (some 4) rfl rfl Try.func78 (by kernel_rfl) rfl #[.int .i64 a0,.int .i64 0,.int .i64 254] rfl zzM2 ?_;(with_reducible refine (Qs.calls a0 0 254 t286 _ A2.out).mono ?_);rintro e w' ⟨rfl,⟨nd,rfl⟩⟩;refine ⟨_,rfl,?_⟩));go_ret;exact ⟨by first|rfl|(simp;done)|(simp [*];done),by repeat (first|exact Drawn0.refl _|apply Drawn0.step)⟩
def Q7.f (a0:Int) (a1:Int):Option (Bool):=(Qs.f a0 0 99999).bind fun t287=>(if t287=true then ((Qs.f a1 0 99999).bind fun t288=>(some t288)) else (some false))
set_option maxHeartbeats 8000000 in
set_option maxRecDepth 100000 in
theorem Q7.calls (a0:Int) (a1:Int) (r:Bool) (w:World) (h:Q7.f a0 a1=some r) :
  Calls Try.prog 91 #[.int .i64 a0,.int .i64 a1] w fun e w'=>e = .returned (.bool r)∧Drawn0 w w':=by
 have H:((Qs.f a0 0 99999).bind fun t287=>(if t287=true then ((Qs.f a1 0 99999).bind fun t288=>(some t288)) else (some false)))=some r:=h;clear h;replace H:=Option.bind_eq_some_iff.mp H;obtain ⟨t287,A30,H⟩:=H;replace H:(if t287=true then ((Qs.f a1 0 99999).bind fun t288=>(some t288)) else (some false))=some r:=H;have A3:=zzm A30;clear A30;by_cases c4:t287=true
 ·
  subst c4;have H1:((Qs.f a1 0 99999).bind fun t288=>(some t288))=some r:=by rw [if_pos rfl] at H;exact H
  clear H;have H:=H1;clear H1;replace H:=Option.bind_eq_some_iff.mp H;obtain ⟨t288,A50,H⟩:=H;replace H:(some t288)=some r:=H;have A5:=zzm A50;clear A50;obtain rfl:=Option.some.inj H;go_enter Try.func91,Try.ntmps91;go_wp2_with (first|((with_reducible refine gate_callee (f:=78) rfl ?_);refine goesL_ (some 6) rfl rfl Try.func78 (by kernel_rfl) rfl #[.int .i64 a0,.int .i64 0,.int .i64 99999] rfl zzM2 ?_;(with_reducible refine (Qs.calls a0 0 99999 true _ A3.out).mono ?_);rintro e w' ⟨rfl,⟨nd,rfl⟩⟩;refine ⟨_,rfl,?_⟩)|(go_at_call 78;(with_reducible refine (Qs.calls a1 0 99999 t288 _ A5.out).mono ?_);rintro e w' ⟨rfl,⟨nd,rfl⟩⟩));go_ret;exact ⟨by first|rfl|(simp;done)|(simp [*];done),by repeat (first|exact Drawn0.refl _|apply Drawn0.step)⟩
 ·
  replace c4:=Bool.eq_false_iff.mpr c4;subst c4;have H1:(some false)=some r:=by rw [if_neg (show ¬ (false=true) by decide)] at H;exact H
  clear H;have H:=H1;clear H1;obtain rfl:=Option.some.inj H;go_enter Try.func91,Try.ntmps91;go_wp2_with (first|((with_reducible refine gate_callee (f:=78) rfl ?_);refine goesL_ (some 6) rfl rfl Try.func78 (by kernel_rfl) rfl #[.int .i64 a0,.int .i64 0,.int .i64 99999] rfl zzM2 ?_;(with_reducible refine (Qs.calls a0 0 99999 false _ A3.out).mono ?_);rintro e w' ⟨rfl,⟨nd,rfl⟩⟩;refine ⟨_,rfl,?_⟩));go_ret;exact ⟨by first|rfl|(simp;done)|(simp [*];done),by repeat (first|exact Drawn0.refl _|apply Drawn0.step)⟩
def Rg.f (a0:Int):Option (Bool):=if a0 ≥ 0 then (some (decide (a0≤255))) else (some false)
set_option maxHeartbeats 8000000 in
set_option maxRecDepth 100000 in
theorem Rg.calls (a0:Int) (r:Bool) (w:World) (h:Rg.f a0=some r) :
  Calls Try.prog 96 #[.int .i64 a0] w fun e w'=>e = .returned (.bool r)∧Drawn0 w w':=by
 have H:(if a0 ≥ 0 then (some (decide (a0≤255))) else (some false))=some r:=h;clear h;by_cases c2:a0 ≥ 0
 ·
  rw [if_pos c2] at H;have c2b0:decide (0≤a0)=true:=decide_eq_true c2;clear c2;obtain rfl:=Option.some.inj H;go_enter Try.func96,Try.ntmps96;go_wp2;go_ret;exact ⟨by first|rfl|(simp;done)|(simp [*];done),by repeat (first|exact Drawn0.refl _|apply Drawn0.step)⟩
 ·
  rw [if_neg c2] at H;have c2b0:decide (0≤a0)=false:=decide_eq_false c2;clear c2;obtain rfl:=Option.some.inj H;go_enter Try.func96,Try.ntmps96;go_wp2;go_ret;exact ⟨by first|rfl|(simp;done)|(simp [*];done),by repeat (first|exact Drawn0.refl _|apply Drawn0.step)⟩
def Qt.l0:Nat→List Int→Int→Int→Option (Bool)
 | 0,_,_,_=>none
 | k+1,x5,x6,x7=>if x7 < x6 then (if 0≤x7 then (if x7 < (x5.length:Int) then ((Rg.f (rd x5 x7)).bind fun t290=>(if t290=true then (Qt.l0 k x5 x6 (wrap64 (x7+1))) else (some false))) else (none)) else (none)) else (some true)
def Qt.f (k:Nat) (l0:List Int):Option (Bool):=Qt.l0 k l0 (l0.length:Int) 0
set_option maxHeartbeats 8000000 in
set_option maxRecDepth 100000 in
theorem Qt.calls (k:Nat) (A0:Option Addr) (c0:Nat) (l0:List Int) (r:Bool) (w:World) (hr0:Kd.C (Kd.int .i64) w A0 l0.length l0) (hc0:l0.length≤c0) (h:Qt.f k l0=some r) :
  Calls Try.prog 86 #[.slice A0 l0.length c0] w fun e w'=>e = .returned (.bool r)∧Drawn0 w w':=by
 have HR0:=zzm hr0;have HC0:=zzm hc0;clear hr0 hc0;have H:(Qt.l0 k l0 (l0.length:Int) 0)=some r:=h;clear h;have H':=zzm H;clear H;go_enter Try.func86,Try.ntmps86;go_wp2;go_loopg [7] k (fun kq v7 w'=>∃ (x7_1:Int),v7 = .int .i64 x7_1∧Aside0 (Qt.l0 kq l0 (l0.length:Int) x7_1=some r)∧Aside0 (kq≤k)∧Drawn0 w w')
 case atStart=>exact ⟨(0),(by first|rfl|(simp;done)|(simp [*];done)),H',⟨Nat.le_refl _⟩,by repeat (first|exact Drawn0.refl _|apply Drawn0.step)⟩
 case round=>
  clear H';obtain ⟨x7_1,rfl,HA,HK1,⟨m1,rfl⟩⟩:=hrel;cases gk with
  | zero=>exact absurd HA.out (by simp [Qt.l0])
  | succ k1=>
   have H:=HA.out;clear HA;simp only [Qt.l0] at H;by_cases c2:x7_1 < (l0.length:Int)
   ·
    rw [if_pos c2] at H;have c2b0:decide (x7_1 < (l0.length:Int))=true:=decide_eq_true c2;clear c2;by_cases c3 : 0≤x7_1
    ·
     rw [if_pos c3] at H;have c3b0:decide (0≤x7_1)=true:=decide_eq_true c3;clear c3;by_cases c4:x7_1 < (l0.length:Int)
     ·
      rw [if_pos c4] at H;have c4b0:decide (x7_1 < (l0.length:Int))=true:=decide_eq_true c4;clear c4;replace H:=Option.bind_eq_some_iff.mp H;obtain ⟨t290,A50,H⟩:=H;replace H:(if t290=true then (Qt.l0 k1 l0 (l0.length:Int) (wrap64 (x7_1+1))) else (some false))=some r:=H;have A5:=zzm A50;clear A50;by_cases c6:t290=true
      ·
       subst c6;have H1:(Qt.l0 k1 l0 (l0.length:Int) (wrap64 (x7_1+1)))=some r:=by rw [if_pos rfl] at H;exact H
       clear H;have H:=H1;clear H1;have H':=zzm H;clear H;have p289 : 0≤(x7_1:Int):=zzt;have q289:x7_1 < (l0.length:Int):=zzt;obtain ⟨ad289,e289,hx289_0⟩:=Kd.at_int HR0.out x7_1 p289 q289;cases e289;replace p289:=eq_true p289;replace q289:=eq_true q289;go_wp2_with (first|((with_reducible refine gate_callee (f:=96) rfl ?_);refine goesL_ (some 12) rfl rfl Try.func96 (by kernel_rfl) rfl #[.int .i64 (rd l0 x7_1)] rfl zzM2 ?_;(with_reducible refine (Rg.calls (rd l0 x7_1) true _ A5.out).mono ?_);rintro e w' ⟨rfl,⟨nd,rfl⟩⟩;refine ⟨_,rfl,?_⟩));go_roundg k1
       case measure=>have:=HK1.out;omega
       case rel=>exact ⟨(wrap64 (x7_1+1)),(by first|rfl|(simp;done)|(simp [*];done)),H',⟨by have:=HK1.out;omega⟩,by repeat (first|exact Drawn0.refl _|apply Drawn0.step)⟩
      ·
       replace c6:=Bool.eq_false_iff.mpr c6;subst c6;have H1:(some false)=some r:=by rw [if_neg (show ¬ (false=true) by decide)] at H;exact H
       clear H;have H:=H1;clear H1;obtain rfl:=Option.some.inj H;have p289 : 0≤(x7_1:Int):=zzt;have q289:x7_1 < (l0.length:Int):=zzt;obtain ⟨ad289,e289,hx289_0⟩:=Kd.at_int HR0.out x7_1 p289 q289;cases e289;replace p289:=eq_true p289;replace q289:=eq_true q289;go_wp2_with (first|((with_reducible refine gate_callee (f:=96) rfl ?_);refine goesL_ (some 12) rfl rfl Try.func96 (by kernel_rfl) rfl #[.int .i64 (rd l0 x7_1)] rfl zzM2 ?_;(with_reducible refine (Rg.calls (rd l0 x7_1) false _ A5.out).mono ?_);rintro e w' ⟨rfl,⟨nd,rfl⟩⟩;refine ⟨_,rfl,?_⟩));go_ret;exact ⟨by first|rfl|(simp;done)|(simp [*];done),by repeat (first|exact Drawn0.refl _|apply Drawn0.step)⟩
     ·
      rw [if_neg c4] at H;exact absurd H (by simp)
    ·
     rw [if_neg c3] at H;exact absurd H (by simp)
   ·
    rw [if_neg c2] at H;have c2b0:decide (x7_1 < (l0.length:Int))=false:=decide_eq_false c2;clear c2;obtain rfl:=Option.some.inj H;go_wp2;go_ret;exact ⟨by first|rfl|(simp;done)|(simp [*];done),by repeat (first|exact Drawn0.refl _|apply Drawn0.step)⟩
def Qu.f (k:Nat) (a0:Bool) (l1:List Int):Option (Bool):=if a0=true then (if (l1.length:Int)≤12 then ((Qt.f k l1).bind fun t291=>(some t291)) else (some false)) else (some ((l1.length:Int)==0))
set_option maxHeartbeats 8000000 in
set_option maxRecDepth 100000 in
theorem Qu.calls (k:Nat) (a0:Bool) (A1:Option Addr) (c1:Nat) (l1:List Int) (r:Bool) (w:World) (hr1:Kd.C (Kd.int .i64) w A1 l1.length l1) (hc1:l1.length≤c1) (h:Qu.f k a0 l1=some r) :
  Calls Try.prog 92 #[.bool a0,.slice A1 l1.length c1] w fun e w'=>e = .returned (.bool r)∧Drawn0 w w':=by
 have HR1:=zzm hr1;have HC1:=zzm hc1;clear hr1 hc1;have H:(if a0=true then (if (l1.length:Int)≤12 then ((Qt.f k l1).bind fun t291=>(some t291)) else (some false)) else (some ((l1.length:Int)==0)))=some r:=h;clear h;by_cases c3:a0=true
 ·
  subst c3;have H1:(if (l1.length:Int)≤12 then ((Qt.f k l1).bind fun t291=>(some t291)) else (some false))=some r:=by rw [if_pos rfl] at H;exact H
  clear H;have H:=H1;clear H1;by_cases c4:(l1.length:Int)≤12
  ·
   rw [if_pos c4] at H;have c4b0:decide ((l1.length:Int)≤12)=true:=decide_eq_true c4;have c4b1:decide (l1.length≤12)=true:=decide_eq_true (by omega);clear c4;replace H:=Option.bind_eq_some_iff.mp H;obtain ⟨t291,A50,H⟩:=H;replace H:(some t291)=some r:=H;have A5:=zzm A50;clear A50;obtain rfl:=Option.some.inj H;go_enter Try.func92,Try.ntmps92;go_wp2_with (first|(go_at_call 86;(with_reducible refine (Qt.calls k _ _ l1 t291 _ ?side1 ?side2 A5.out).mono ?_);(case side1=>repeat (first|exact HR1.out|(with_reducible refine Kd.C_alloc ?_ _)|(with_reducible refine Kd.C_drewN ?_ _)|(with_reducible refine Kd.C_drew ?_)));(case side2=>exact HC1.out);rintro e w' ⟨rfl,⟨nd,rfl⟩⟩));go_ret;exact ⟨by first|rfl|(simp;done)|(simp [*];done),by repeat (first|exact Drawn0.refl _|apply Drawn0.step)⟩
  ·
   rw [if_neg c4] at H;have c4b0:decide ((l1.length:Int)≤12)=false:=decide_eq_false c4;have c4b1:decide (l1.length≤12)=false:=decide_eq_false (by omega);clear c4;obtain rfl:=Option.some.inj H;go_enter Try.func92,Try.ntmps92;go_wp2;go_ret;exact ⟨by first|rfl|(simp;done)|(simp [*];done),by repeat (first|exact Drawn0.refl _|apply Drawn0.step)⟩
 ·
  replace c3:=Bool.eq_false_iff.mpr c3;subst c3;have H1:(some ((l1.length:Int)==0))=some r:=by rw [if_neg (show ¬ (false=true) by decide)] at H;exact H
  clear H;have H:=H1;clear H1;obtain rfl:=Option.some.inj H;go_enter Try.func92,Try.ntmps92;go_wp2;go_ret;exact ⟨by first|rfl|(simp;done)|(simp [*];done),by repeat (first|exact Drawn0.refl _|apply Drawn0.step)⟩
def Q3.f (k:Nat) (a0_0:Int) (a0_1:Int) (a0_2:Bool) (l0_3:List Int) (a0_4:Bool) (l0_5:List Int):Option (Bool):=(Q7.f a0_0 a0_1).bind fun t293=>(if t293=true then ((Qu.f k a0_2 l0_3).bind fun t294=>(if t294=true then ((Qu.f k a0_4 l0_5).bind fun t295=>(some t295)) else (some false))) else (some false))
set_option maxHeartbeats 8000000 in
set_option maxRecDepth 100000 in
theorem Q3.calls (k:Nat) (a0_0:Int) (a0_1:Int) (a0_2:Bool) (A0_3:Option Addr) (c0_3:Nat) (l0_3:List Int) (a0_4:Bool) (A0_5:Option Addr) (c0_5:Nat) (l0_5:List Int) (r:Bool) (w:World) (hr0_3:Kd.C (Kd.int .i64) w A0_3 l0_3.length l0_3) (hc0_3:l0_3.length≤c0_3) (hr0_5:Kd.C (Kd.int .i64) w A0_5 l0_5.length l0_5) (hc0_5:l0_5.length≤c0_5) (h:Q3.f k a0_0 a0_1 a0_2 l0_3 a0_4 l0_5=some r) :
  Calls Try.prog 79 #[.agg #[.int .i64 a0_0,.int .i64 a0_1,.bool a0_2,.slice A0_3 l0_3.length c0_3,.bool a0_4,.slice A0_5 l0_5.length c0_5]] w fun e w'=>e = .returned (.bool r)∧Below w.heap.size w w':=by
 have hu30:=Try.underlying30;have HR0_3:=zzm hr0_3;have HC0_3:=zzm hc0_3;clear hr0_3 hc0_3;have HR0_5:=zzm hr0_5;have HC0_5:=zzm hc0_5;clear hr0_5 hc0_5;have HB:=zzm (Below.refl w.heap.size w);have H:((Q7.f a0_0 a0_1).bind fun t293=>(if t293=true then ((Qu.f k a0_2 l0_3).bind fun t294=>(if t294=true then ((Qu.f k a0_4 l0_5).bind fun t295=>(some t295)) else (some false))) else (some false)))=some r:=h;clear h;replace H:=Option.bind_eq_some_iff.mp H;obtain ⟨t293,A20,H⟩:=H;replace H:(if t293=true then ((Qu.f k a0_2 l0_3).bind fun t294=>(if t294=true then ((Qu.f k a0_4 l0_5).bind fun t295=>(some t295)) else (some false))) else (some false))=some r:=H;have A2:=zzm A20;clear A20;by_cases c3:t293=true
 ·
  subst c3;have H1:((Qu.f k a0_2 l0_3).bind fun t294=>(if t294=true then ((Qu.f k a0_4 l0_5).bind fun t295=>(some t295)) else (some false)))=some r:=by rw [if_pos rfl] at H;exact H
  clear H;have H:=H1;clear H1;replace H:=Option.bind_eq_some_iff.mp H;obtain ⟨t294,A40,H⟩:=H;replace H:(if t294=true then ((Qu.f k a0_4 l0_5).bind fun t295=>(some t295)) else (some false))=some r:=H;have A4:=zzm A40;clear A40;by_cases c5:t294=true
  ·
   subst c5;have H1:((Qu.f k a0_4 l0_5).bind fun t295=>(some t295))=some r:=by rw [if_pos rfl] at H;exact H
   clear H;have H:=H1;clear H1;replace H:=Option.bind_eq_some_iff.mp H;obtain ⟨t295,A60,H⟩:=H;replace H:(some t295)=some r:=H;have A6:=zzm A60;clear A60;obtain rfl:=Option.some.inj H;go_enter Try.func79,Try.ntmps79;go_wp2_with (first|((with_reducible refine gate_dst (N:=1) rfl ?_);refine box_event ?hg (N:=1) ?hd (cs:=#[.int .i64 a0_0,.int .i64 a0_1,.bool a0_2,.slice A0_3 l0_3.length c0_3,.bool a0_4,.slice A0_5 l0_5.length c0_5]) (t:=30) ?hr ?_;(case hd=>rfl);(case hg=>rfl);(case hr=>first|(go_simp;done)|(go_simp;rfl));intro gb292 hg w7 hbox hb;have n0_:=zzm (zzp zzh1 hb);have n1_:=zzm (hbox);have n2_:=zzm ((by rw [hg];exact (zzo zzh1):w.heap.size≤gb292));have n3_:=zzm ((by rw [hg];exact (zzo zzh1):w.heap.size≤gb292));clear HB;have HB:=n0_;have BK292:=n1_;have GW292:=n2_;have GE292:=n3_;clear n0_ n1_ n2_ n3_ hb hbox hg;obtain ⟨hcz8_0,hcz8_1,hcz8_2,hcz8_3,hcz8_4,hcz8_5,hfz8_0,hfz8_1,hfz8_2,hfz8_3,hfz8_4,hfz8_5⟩:=zzc6 BK292.out)|((with_reducible refine gate_callee (f:=91) rfl ?_);refine goesL_ (some 7) rfl rfl Try.func91 (by kernel_rfl) rfl #[.int .i64 a0_0,.int .i64 a0_1] rfl zzM2 ?_;(with_reducible refine (Q7.calls a0_0 a0_1 true _ A2.out).mono ?_);rintro e w' ⟨rfl,⟨nd,rfl⟩⟩;refine ⟨_,rfl,?_⟩)|(go_at_call 92;(with_reducible refine (Qu.calls k a0_2 _ _ l0_3 true _ ?side1 ?side2 A4.out).mono ?_);(case side1=>repeat (first|exact (Kd.C_below HR0_3.out zzh2)|(with_reducible refine Kd.C_alloc ?_ _)|(with_reducible refine Kd.C_drewN ?_ _)|(with_reducible refine Kd.C_drew ?_)));(case side2=>exact HC0_3.out);rintro e w' ⟨rfl,⟨nd,rfl⟩⟩)|(go_at_call 92;(with_reducible refine (Qu.calls k a0_4 _ _ l0_5 t295 _ ?side1 ?side2 A6.out).mono ?_);(case side1=>repeat (first|exact (Kd.C_below HR0_5.out zzh2)|(with_reducible refine Kd.C_alloc ?_ _)|(with_reducible refine Kd.C_drewN ?_ _)|(with_reducible refine Kd.C_drew ?_)));(case side2=>exact HC0_5.out);rintro e w' ⟨rfl,⟨nd,rfl⟩⟩));go_ret;exact ⟨by first|rfl|(simp [errW_none,errW_some] <;> rfl)|(simp [*,errW_none,errW_some] <;> rfl),by repeat (first|(with_reducible first|exact HB.out|apply zza|apply zzb|apply zzc|refine zzd ?_ GE292.out)|exact HB.out)⟩
  ·
   replace c5:=Bool.eq_false_iff.mpr c5;subst c5;have H1:(some false)=some r:=by rw [if_neg (show ¬ (false=true) by decide)] at H;exact H
   clear H;have H:=H1;clear H1;obtain rfl:=Option.some.inj H;go_enter Try.func79,Try.ntmps79;go_wp2_with (first|((with_reducible refine gate_dst (N:=1) rfl ?_);refine box_event ?hg (N:=1) ?hd (cs:=#[.int .i64 a0_0,.int .i64 a0_1,.bool a0_2,.slice A0_3 l0_3.length c0_3,.bool a0_4,.slice A0_5 l0_5.length c0_5]) (t:=30) ?hr ?_;(case hd=>rfl);(case hg=>rfl);(case hr=>first|(go_simp;done)|(go_simp;rfl));intro gb292 hg w9 hbox hb;have n0_:=zzm (zzp zzh1 hb);have n1_:=zzm (hbox);have n2_:=zzm ((by rw [hg];exact (zzo zzh1):w.heap.size≤gb292));have n3_:=zzm ((by rw [hg];exact (zzo zzh1):w.heap.size≤gb292));clear HB;have HB:=n0_;have BK292:=n1_;have GW292:=n2_;have GE292:=n3_;clear n0_ n1_ n2_ n3_ hb hbox hg;obtain ⟨hcz10_0,hcz10_1,hcz10_2,hcz10_3,hcz10_4,hcz10_5,hfz10_0,hfz10_1,hfz10_2,hfz10_3,hfz10_4,hfz10_5⟩:=zzc6 BK292.out)|((with_reducible refine gate_callee (f:=91) rfl ?_);refine goesL_ (some 7) rfl rfl Try.func91 (by kernel_rfl) rfl #[.int .i64 a0_0,.int .i64 a0_1] rfl zzM2 ?_;(with_reducible refine (Q7.calls a0_0 a0_1 true _ A2.out).mono ?_);rintro e w' ⟨rfl,⟨nd,rfl⟩⟩;refine ⟨_,rfl,?_⟩)|(go_at_call 92;(with_reducible refine (Qu.calls k a0_2 _ _ l0_3 false _ ?side1 ?side2 A4.out).mono ?_);(case side1=>repeat (first|exact (Kd.C_below HR0_3.out zzh2)|(with_reducible refine Kd.C_alloc ?_ _)|(with_reducible refine Kd.C_drewN ?_ _)|(with_reducible refine Kd.C_drew ?_)));(case side2=>exact HC0_3.out);rintro e w' ⟨rfl,⟨nd,rfl⟩⟩));go_ret;exact ⟨by first|rfl|(simp [errW_none,errW_some] <;> rfl)|(simp [*,errW_none,errW_some] <;> rfl),by repeat (first|(with_reducible first|exact HB.out|apply zza|apply zzb|apply zzc|refine zzd ?_ GE292.out)|exact HB.out)⟩
 ·
  replace c3:=Bool.eq_false_iff.mpr c3;subst c3;have H1:(some false)=some r:=by rw [if_neg (show ¬ (false=true) by decide)] at H;exact H
  clear H;have H:=H1;clear H1;obtain rfl:=Option.some.inj H;go_enter Try.func79,Try.ntmps79;go_wp2_with (first|((with_reducible refine gate_dst (N:=1) rfl ?_);refine box_event ?hg (N:=1) ?hd (cs:=#[.int .i64 a0_0,.int .i64 a0_1,.bool a0_2,.slice A0_3 l0_3.length c0_3,.bool a0_4,.slice A0_5 l0_5.length c0_5]) (t:=30) ?hr ?_;(case hd=>rfl);(case hg=>rfl);(case hr=>first|(go_simp;done)|(go_simp;rfl));intro gb292 hg w11 hbox hb;have n0_:=zzm (zzp zzh1 hb);have n1_:=zzm (hbox);have n2_:=zzm ((by rw [hg];exact (zzo zzh1):w.heap.size≤gb292));have n3_:=zzm ((by rw [hg];exact (zzo zzh1):w.heap.size≤gb292));clear HB;have HB:=n0_;have BK292:=n1_;have GW292:=n2_;have GE292:=n3_;clear n0_ n1_ n2_ n3_ hb hbox hg;obtain ⟨hcz12_0,hcz12_1,hcz12_2,hcz12_3,hcz12_4,hcz12_5,hfz12_0,hfz12_1,hfz12_2,hfz12_3,hfz12_4,hfz12_5⟩:=zzc6 BK292.out)|((with_reducible refine gate_callee (f:=91) rfl ?_);refine goesL_ (some 7) rfl rfl Try.func91 (by kernel_rfl) rfl #[.int .i64 a0_0,.int .i64 a0_1] rfl zzM2 ?_;(with_reducible refine (Q7.calls a0_0 a0_1 false _ A2.out).mono ?_);rintro e w' ⟨rfl,⟨nd,rfl⟩⟩;refine ⟨_,rfl,?_⟩));go_ret;exact ⟨by first|rfl|(simp [errW_none,errW_some] <;> rfl)|(simp [*,errW_none,errW_some] <;> rfl),by repeat (first|(with_reducible first|exact HB.out|apply zza|apply zzb|apply zzc|refine zzd ?_ GE292.out)|exact HB.out)⟩
end Go.Proofs.Ytkhjmhdgcmffaaa.U
