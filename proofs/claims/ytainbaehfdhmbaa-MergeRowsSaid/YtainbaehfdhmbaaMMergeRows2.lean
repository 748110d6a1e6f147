/- Texts on the way to 'MergeRows', one behind the other (part 2). -/
import Derived.Test.YtainbaehfdhmbaaMMergeRows1
namespace Go.Proofs.Ytainbaehfdhmbaa.PX
open Go.RowKit Go.Proofs.YtainbaehfdhmbaaW.PrintWords Go.Proofs.YtainbaehfdhmbaaW.PrintLast Go.Proofs.YtainbaehfdhmbaaW.PrintMore
attribute [local go_sem] max2_int min2_int max_two min_two max_three min_three max_four min_four   
set_option linter.unusedVariables false
set_option linter.unusedSimpArgs false
def merge_stay.f (k:Nat) (a0_0:Bool) (l0_1:List (S51)) (a0_2:Bool) (l0_3:List (S51)) (a0_4:Bool) (l0_5:List (S51)):Option (Bool × (List (S51)) × Bool × (List (S51)) × Bool × (List (S51))):=(merge_own.f k a0_0 l0_1).bind fun bt588=>((merge_own.f k a0_2 l0_3).bind fun bt592=>((merge_own.f k a0_4 l0_5).bind fun bt596=>(some (bt588.1,bt588.2,bt592.1,bt592.2,bt596.1,bt596.2))))
theorem merge_stay.mono:∀ a0 a1 a2 a3 a4 a5 k,LeO (merge_stay.f k a0 a1 a2 a3 a4 a5) (merge_stay.f (k+1) a0 a1 a2 a3 a4 a5):=by
 intro a0 a1 a2 a3 a4 a5 k
 unfold merge_stay.f
 repeat' first
   | (with_reducible exact merge_own.mono _ _ _)
   | (with_reducible exact LeO.refl _)
   | (with_reducible exact LeO.none _)
   | (with_reducible refine LeO.ite ?_ ?_)
   | (with_reducible refine LeO.bind ?_ (fun _=>?_))
   | exact merge_own.mono _ _ _
   | exact LeO.none _
   | refine LeO.ite ?_ ?_
   | refine LeO.bind ?_ (fun _=>?_)
def merge_stay.T1:Bool × List (List Nat × List Nat):=(true,[([],[]),([0],[0]),([1],[1]),([],[]),([3],[3]),([4,2],[4]),([],[]),([6],[6]),([7,5],[7]),([2,5,8],[2,5,8]),([9,8,0,1,2,3,4,5,6,7,8,9],[9])])
def merge_stay.B1:List Nat:=[0,1,3,0,8,31,0,64,255,511,1023]
theorem merge_stay.tab1:rtab .any (opsOf Try.f30 1)=merge_stay.T1:=by kernel_rfl
theorem merge_stay.bits1:waitsOk merge_stay.T1.2 merge_stay.B1=true:=by kernel_rfl
set_option maxHeartbeats 8000000 in
set_option maxRecDepth 100000 in
theorem merge_stay.calls (k:Nat) (a0_0:Bool) (P0_1_:Nat→Prop) (A0_1:Option Addr) (c0_1:Nat) (l0_1:List (S51)) (a0_2:Bool) (P0_3_:Nat→Prop) (A0_3:Option Addr) (c0_3:Nat) (l0_3:List (S51)) (a0_4:Bool) (P0_5_:Nat→Prop) (A0_5:Option Addr) (c0_5:Nat) (l0_5:List (S51)) (r1:Bool) (r2:List (S51)) (r3:Bool) (r4:List (S51)) (r5:Bool) (r6:List (S51)) (w:World) (hs0_1:Kd.V k51 51 w w.heap.size (fun k_=>P0_1_ k_) (.slice A0_1 l0_1.length c0_1) l0_1) (hs0_3:Kd.V k51 51 w w.heap.size (fun k_=>P0_3_ k_) (.slice A0_3 l0_3.length c0_3) l0_3) (hs0_5:Kd.V k51 51 w w.heap.size (fun k_=>P0_5_ k_) (.slice A0_5 l0_5.length c0_5) l0_5) (h:merge_stay.f k a0_0 l0_1 a0_2 l0_3 a0_4 l0_5=some (r1,r2,r3,r4,r5,r6)) :
  Calls Try.prog 30 #[.agg #[.bool a0_0,.slice A0_1 l0_1.length c0_1,.bool a0_2,.slice A0_3 l0_3.length c0_3,.bool a0_4,.slice A0_5 l0_5.length c0_5]] w fun e w'=>∃ v1_ v3_ v5_:Value,e=.returned (.agg #[.bool r1,v1_,.bool r3,v3_,.bool r5,v5_])∧Kd.N k51 51 w' w.heap.size (fun k_=>((P0_1_ k_∨P0_3_ k_∨P0_5_ k_)∨w.heap.size≤k_)∧some k_≠(v3_:Value).ownBlock∧some k_≠(v5_:Value).ownBlock) v1_ r2∧Kd.N k51 51 w' w.heap.size (fun k_=>((P0_1_ k_∨P0_3_ k_∨P0_5_ k_)∨w.heap.size≤k_)∧some k_≠(v1_:Value).ownBlock∧some k_≠(v5_:Value).ownBlock) v3_ r4∧Kd.N k51 51 w' w.heap.size (fun k_=>((P0_1_ k_∨P0_3_ k_∨P0_5_ k_)∨w.heap.size≤k_)∧some k_≠(v1_:Value).ownBlock∧some k_≠(v3_:Value).ownBlock) v5_ r6∧Below w.heap.size w w':=by
 have hu65:=Try.underlying65
 have hu26:=Try.underlying26
 have HO0_1:=Aside0.mk (show Kd.V k51 51 w w.heap.size (fun k_=>((P0_1_ k_∨P0_3_ k_∨P0_5_ k_)∨w.heap.size≤k_)) (.slice A0_1 l0_1.length c0_1) l0_1 from Kd.V_mono hs0_1 (fun k_ hk=>.inl (.inl hk)))
 have HO0_3:=Aside0.mk (show Kd.V k51 51 w w.heap.size (fun k_=>((P0_1_ k_∨P0_3_ k_∨P0_5_ k_)∨w.heap.size≤k_)) (.slice A0_3 l0_3.length c0_3) l0_3 from Kd.V_mono hs0_3 (fun k_ hk=>.inl (.inr (.inl hk))))
 have HO0_5:=Aside0.mk (show Kd.V k51 51 w w.heap.size (fun k_=>((P0_1_ k_∨P0_3_ k_∨P0_5_ k_)∨w.heap.size≤k_)) (.slice A0_5 l0_5.length c0_5) l0_5 from Kd.V_mono hs0_5 (fun k_ hk=>.inl (.inr (.inr hk))))
 have HB:=Aside0.mk (Below.refl w.heap.size w)
 have H:((merge_own.f k a0_0 l0_1).bind fun bt588=>((merge_own.f k a0_2 l0_3).bind fun bt592=>((merge_own.f k a0_4 l0_5).bind fun bt596=>(some (bt588.1,bt588.2,bt592.1,bt592.2,bt596.1,bt596.2)))))=some (r1,r2,r3,r4,r5,r6):=h
 clear h
 replace H:=Option.bind_eq_some_iff.mp H
 obtain ⟨⟨t588,t589⟩,A20,H⟩:=H
 replace H:((merge_own.f k a0_2 l0_3).bind fun bt592=>((merge_own.f k a0_4 l0_5).bind fun bt596=>(some (t588,t589,bt592.1,bt592.2,bt596.1,bt596.2))))=some (r1,r2,r3,r4,r5,r6):=H
 have A2:=Aside0.mk A20
 clear A20
 replace H:=Option.bind_eq_some_iff.mp H
 obtain ⟨⟨t592,t593⟩,A30,H⟩:=H
 replace H:((merge_own.f k a0_4 l0_5).bind fun bt596=>(some (t588,t589,t592,t593,bt596.1,bt596.2)))=some (r1,r2,r3,r4,r5,r6):=H
 have A3:=Aside0.mk A30
 clear A30
 replace H:=Option.bind_eq_some_iff.mp H
 obtain ⟨⟨t596,t597⟩,A40,H⟩:=H
 replace H:(some (t588,t589,t592,t593,t596,t597))=some (r1,r2,r3,r4,r5,r6):=H
 have A4:=Aside0.mk A40
 clear A40
 simp only [Option.some.injEq,Prod.mk.injEq] at H
 obtain ⟨rfl,rfl,rfl,rfl,rfl,rfl⟩:=H
 go_enter Try.func30,Try.ntmps30
 try go_wp2_with (first|((with_reducible refine gate_dst (N:=1) rfl ?_);refine box_event ?hg (N:=1) ?hd (cs:=#[.bool a0_0,.slice A0_1 l0_1.length c0_1,.bool a0_2,.slice A0_3 l0_3.length c0_3,.bool a0_4,.slice A0_5 l0_5.length c0_5]) (t:=65) ?hr ?_;(case hd=>rfl);(case hg=>rfl);(case hr=>first|(go_simp;done)|(go_simp;rfl));intro gb586 hg w5 hbox hb;have n0_:=Aside0.mk (Kd.V_below (Kd.V_elderB (by (with_reducible repeat (first|apply vA_|apply vN_|apply vD_));exact HO0_1.out) gb586 (Nat.le_of_eq hg.symm)) hb);have n1_:=Aside0.mk (Kd.V_below (Kd.V_elderB (by (with_reducible repeat (first|apply vA_|apply vN_|apply vD_));exact HO0_3.out) gb586 (Nat.le_of_eq hg.symm)) hb);have n2_:=Aside0.mk (Kd.V_below (Kd.V_elderB (by (with_reducible repeat (first|apply vA_|apply vN_|apply vD_));exact HO0_5.out) gb586 (Nat.le_of_eq hg.symm)) hb);have n3_:=Aside0.mk (below_step (by repeat (first|(with_reducible first|exact HB.out|apply bA_|apply bN_|apply bD_)|exact HB.out)) hb);have n4_:=Aside0.mk (hbox);have n5_:=Aside0.mk ((by rw [hg];exact (below_size (by repeat (first|(with_reducible first|exact HB.out|apply bA_|apply bN_|apply bD_)|exact HB.out))):w.heap.size≤gb586));have n6_:=Aside0.mk ((by rw [hg];exact (below_size (by repeat (first|(with_reducible first|exact HB.out|apply bA_|apply bN_|apply bD_)|exact HB.out))):w.heap.size≤gb586));clear HO0_1;clear HO0_3;clear HO0_5;clear HB;have HO0_1:=n0_;have HO0_3:=n1_;have HO0_5:=n2_;have HB:=n3_;have BK586:=n4_;have GW586:=n5_;have GE586:=n6_;clear n0_ n1_ n2_ n3_ n4_ n5_ n6_;clear hb hbox hg)|((with_reducible refine gate_dst (N:=2) rfl ?_);refine box_event ?hg (N:=2) ?hd (cs:=#[.bool false,.slice none 0 0,.bool false,.slice none 0 0,.bool false,.slice none 0 0]) (t:=65) ?hr ?_;(case hd=>rfl);(case hg=>rfl);(case hr=>first|(go_simp;done)|(go_simp;rfl));intro gb587 hg w6 hbox hb;have n0_:=Aside0.mk (Kd.V_below (Kd.V_elderB (by (with_reducible repeat (first|apply vA_|apply vN_|apply vD_));exact HO0_1.out) gb587 (Nat.le_of_eq hg.symm)) hb);have n1_:=Aside0.mk (Kd.V_below (Kd.V_elderB (by (with_reducible repeat (first|apply vA_|apply vN_|apply vD_));exact HO0_3.out) gb587 (Nat.le_of_eq hg.symm)) hb);have n2_:=Aside0.mk (Kd.V_below (Kd.V_elderB (by (with_reducible repeat (first|apply vA_|apply vN_|apply vD_));exact HO0_5.out) gb587 (Nat.le_of_eq hg.symm)) hb);have n3_:=Aside0.mk (blk_below (g:=gb586) (o:=.cells #[.bool a0_0,.slice A0_1 l0_1.length c0_1,.bool a0_2,.slice A0_3 l0_3.length c0_3,.bool a0_4,.slice A0_5 l0_5.length c0_5] 65 (0,0)) (by (with_reducible repeat (first|refine blk_drewN ?_ _|refine blk_drew ?_|refine blk_alloc ?_ _));exact BK586.out) hb);have n4_:=Aside0.mk (below_step (by repeat (first|(with_reducible first|exact HB.out|apply bA_|apply bN_|apply bD_|refine below_set ?_ GE586.out)|exact HB.out)) hb);have n5_:=Aside0.mk (hbox);have n6_:=Aside0.mk ((by rw [hg];exact (below_size (by repeat (first|(with_reducible first|exact HB.out|apply bA_|apply bN_|apply bD_|refine below_set ?_ GE586.out)|exact HB.out))):w.heap.size≤gb587));have n7_:=Aside0.mk ((by rw [hg];exact (below_size (by repeat (first|(with_reducible first|exact HB.out|apply bA_|apply bN_|apply bD_|refine below_set ?_ GE586.out)|exact HB.out))):w.heap.size≤gb587));have n8_:=Aside0.mk ((by rw [hg];exact Nat.ne_of_lt (blk_lt (g:=gb586) (o:=.cells #[.bool a0_0,.slice A0_1 l0_1.length c0_1,.bool a0_2,.slice A0_3 l0_3.length c0_3,.bool a0_4,.slice A0_5 l0_5.length c0_5] 65 (0,0)) (by (with_reducible repeat (first|refine blk_drewN ?_ _|refine blk_drew ?_|refine blk_alloc ?_ _));exact BK586.out)):gb586≠gb587));have n9_:=Aside0.mk ((by rw [hg];exact Nat.ne_of_gt (blk_lt (g:=gb586) (o:=.cells #[.bool a0_0,.slice A0_1 l0_1.length c0_1,.bool a0_2,.slice A0_3 l0_3.length c0_3,.bool a0_4,.slice A0_5 l0_5.length c0_5] 65 (0,0)) (by (with_reducible repeat (first|refine blk_drewN ?_ _|refine blk_drew ?_|refine blk_alloc ?_ _));exact BK586.out)):gb587≠gb586));clear HO0_1;clear HO0_3;clear HO0_5;clear BK586;clear HB;have HO0_1:=n0_;have HO0_3:=n1_;have HO0_5:=n2_;have BK586:=n3_;have HB:=n4_;have BK587:=n5_;have GW587:=n6_;have GE587:=n7_;have NB586_587:=n8_;have NB587_586:=n9_;clear n0_ n1_ n2_ n3_ n4_ n5_ n6_ n7_ n8_ n9_;clear hb hbox hg))
 have n0_:=Aside0.mk (vD_ HO0_1.out)
 have n1_:=Aside0.mk (vD_ HO0_3.out)
 have n2_:=Aside0.mk (vD_ HO0_5.out)
 have n3_:=Aside0.mk (blk_drew BK586.out)
 have n4_:=Aside0.mk (blk_drew BK587.out)
 have n5_:=Aside0.mk (bD_ HB.out)
 clear HO0_1
 clear HO0_3
 clear HO0_5
 clear BK586
 clear BK587
 clear HB
 have HO0_1:=n0_
 have HO0_3:=n1_
 have HO0_5:=n2_
 have BK586:=n3_
 have BK587:=n4_
 have HB:=n5_
 clear n0_ n1_ n2_ n3_ n4_ n5_
 refine start_ (n:=11) (S:=fun w'=>w'.cell? ⟨gb586,0,none⟩=some (.bool a0_0)∧w'.cell? ⟨gb586,1,none⟩=some (.slice A0_1 l0_1.length c0_1)∧w'.cell? ⟨gb586,2,none⟩=some (.bool a0_2)∧w'.cell? ⟨gb586,3,none⟩=some (.slice A0_3 l0_3.length c0_3)∧w'.cell? ⟨gb586,4,none⟩=some (.bool a0_4)∧w'.cell? ⟨gb586,5,none⟩=some (.slice A0_5 l0_5.length c0_5)) (ds:=[]) #[false,false,false,false,false,false,false,false,false,false,false] (by kernel_rfl) rfl rfl ⟨(blk_cell BK586.out 0).trans rfl,(blk_cell BK586.out 1).trans rfl,(blk_cell BK586.out 2).trans rfl,(blk_cell BK586.out 3).trans rfl,(blk_cell BK586.out 4).trans rfl,(blk_cell BK586.out 5).trans rfl⟩ (fun hHeld=>?_);refine with_tabW merge_stay.tab1 merge_stay.bits1 (fun HT_ HW_=>?_)
 generalize w6.drew=w7 at HO0_1 HO0_3 HO0_5 BK586 BK587 HB hHeld ⊢
 refine pure_ (i:=0) (N:=some 3) (v:=?_) (a':=?_) #[true,false,false,false,false,false,false,false,false,false,false] rfl rfl (any_of HT_.out (by kernel_rfl)) (fun _ _ _ h=>h) (Or.inl ⟨by rfl,?_⟩) ?_ ?_
 rotate_left
 ·intro w'
  go_simp
  with_reducible rfl
 rotate_left
 ·simp only [Act.put,List.setIfInBounds_toArray,List.set_cons_zero,List.set_cons_succ,i64_w,i32_w]
  rfl
 refine pure_ (i:=3) (N:=some 6) (v:=?_) (a':=?_) #[true,false,false,true,false,false,false,false,false,false,false] rfl rfl (any_of HT_.out (by kernel_rfl)) (fun _ _ _ h=>h) (Or.inl ⟨by rfl,?_⟩) ?_ ?_
 rotate_left
 ·intro w'
  go_simp
  with_reducible rfl
 rotate_left
 ·simp only [Act.put,List.setIfInBounds_toArray,List.set_cons_zero,List.set_cons_succ,i64_w,i32_w]
  rfl
 refine pure_ (i:=6) (N:=some 9) (v:=?_) (a':=?_) #[true,false,false,true,false,false,true,false,false,false,false] rfl rfl (any_of HT_.out (by kernel_rfl)) (fun _ _ _ h=>h) (Or.inl ⟨by rfl,?_⟩) ?_ ?_
 rotate_left
 ·intro w'
  go_simp
  with_reducible rfl
 rotate_left
 ·simp only [Act.put,List.setIfInBounds_toArray,List.set_cons_zero,List.set_cons_succ,i64_w,i32_w]
  rfl
 refine take_ (i:=1) (N:=some 4) (v:=?_) (a':=?_) #[true,true,false,true,false,false,true,false,false,false,false] rfl rfl (take_ofW HT_.out HW_.out (by kernel_rfl)) (fun _ _ _ h=>h) (Or.inl ⟨by rfl,?_⟩) hHeld ?_ ?_
 rotate_left
 ·rintro w' ⟨s0,s1,s2,s3,s4,s5⟩
  go_simp
  with_reducible rfl
 rotate_left
 ·simp only [Act.put,List.setIfInBounds_toArray,List.set_cons_zero,List.set_cons_succ,i64_w,i32_w]
  rfl
 refine take_ (i:=4) (N:=some 7) (v:=?_) (a':=?_) #[true,true,false,true,true,false,true,false,false,false,false] rfl rfl (take_ofW HT_.out HW_.out (by kernel_rfl)) (fun _ _ _ h=>h) (Or.inl ⟨by rfl,?_⟩) hHeld ?_ ?_
 rotate_left
 ·rintro w' ⟨s0,s1,s2,s3,s4,s5⟩
  go_simp
  with_reducible rfl
 rotate_left
 ·simp only [Act.put,List.setIfInBounds_toArray,List.set_cons_zero,List.set_cons_succ,i64_w,i32_w]
  rfl
 refine take_ (i:=7) (N:=some 10) (v:=?_) (a':=?_) #[true,true,false,true,true,false,true,true,false,false,false] rfl rfl (take_ofW HT_.out HW_.out (by kernel_rfl)) (fun _ _ _ h=>h) (Or.inl ⟨by rfl,?_⟩) hHeld ?_ ?_
 rotate_left
 ·rintro w' ⟨s0,s1,s2,s3,s4,s5⟩
  go_simp
  with_reducible rfl
 rotate_left
 ·simp only [Act.put,List.setIfInBounds_toArray,List.set_cons_zero,List.set_cons_succ,i64_w,i32_w]
  rfl
 refine one_ (i:=2) (N:=some 5) #[true,true,true,true,true,false,true,true,false,false,false] rfl rfl (one_of HT_.out (by kernel_rfl)) (by decide) (fun K hK=>?_)
 refine goes_ Try.func34 (by kernel_rfl) rfl #[.agg #[.bool a0_0,.slice A0_1 l0_1.length c0_1]] (by rfl) rfl rfl (by (try simp only [List.map_toArray,List.map_cons,List.map_nil]);first|done|rfl|(simp only [List.length_drop,List.length_take];rfl)) ?_
 with_reducible refine (merge_own.calls k a0_0 (fun k_=>((((P0_1_ k_∨P0_3_ k_∨P0_5_ k_)∨w.heap.size≤k_)∧k_≠gb586)∧k_≠gb587)) _ _ l0_1 t588 t589 _ ?side1 A2.out).mono ?_
 (case side1=>exact HO0_1.out)
 rintro e w8 ⟨v590,rfl,ho0,hb⟩
 refine ⟨_,rfl,?_⟩
 have n0_:=Aside0.mk (Kd.V_elder' (by (with_reducible repeat (first|apply vA_|apply vN_|apply vD_));exact HO0_1.out) (Kd.N_base ho0) hb)
 have n1_:=Aside0.mk (Kd.V_elder' (by (with_reducible repeat (first|apply vA_|apply vN_|apply vD_));exact HO0_3.out) (Kd.N_base ho0) hb)
 have n2_:=Aside0.mk (Kd.V_elder' (by (with_reducible repeat (first|apply vA_|apply vN_|apply vD_));exact HO0_5.out) (Kd.N_base ho0) hb)
 have n3_:=Aside0.mk (Kd.N_lower (Kd.N_mono (ok':=fun k_=>((P0_1_ k_∨P0_3_ k_∨P0_5_ k_)∨w.heap.size≤k_)∧k_≠gb586∧k_≠gb587) ho0 (fun k_ hk_=>⟨Or.elim hk_ (fun hs_=>hs_.1.1) (fun hn_=>(.inr (Nat.le_trans (below_size (by repeat (first|(with_reducible first|exact HB.out|apply bA_|apply bN_|apply bD_|refine below_set ?_ GE586.out|refine below_set ?_ GE587.out)|exact HB.out))) hn_))),Or.elim hk_ (fun hs_=>hs_.1.2) (fun hn_=>(Kd.freshB (g:=gb586) (o:=.cells #[.bool a0_0,.slice A0_1 l0_1.length c0_1,.bool a0_2,.slice A0_3 l0_3.length c0_3,.bool a0_4,.slice A0_5 l0_5.length c0_5] 65 (0,0)) (by (with_reducible repeat (first|refine blk_drewN ?_ _|refine blk_drew ?_|refine blk_alloc ?_ _));exact BK586.out) k_ hn_)),Or.elim hk_ (fun hs_=>hs_.2) (fun hn_=>(Kd.freshB (g:=gb587) (o:=.cells #[.bool false,.slice none 0 0,.bool false,.slice none 0 0,.bool false,.slice none 0 0] 65 (0,0)) (by (with_reducible repeat (first|refine blk_drewN ?_ _|refine blk_drew ?_|refine blk_alloc ?_ _));exact BK587.out) k_ hn_))⟩)) (below_size (by repeat (first|(with_reducible first|exact HB.out|apply bA_|apply bN_|apply bD_|refine below_set ?_ GE586.out|refine below_set ?_ GE587.out)|exact HB.out))))
 have n4_:=Aside0.mk (blk_below (g:=gb586) (o:=.cells #[.bool a0_0,.slice A0_1 l0_1.length c0_1,.bool a0_2,.slice A0_3 l0_3.length c0_3,.bool a0_4,.slice A0_5 l0_5.length c0_5] 65 (0,0)) (by (with_reducible repeat (first|refine blk_drewN ?_ _|refine blk_drew ?_|refine blk_alloc ?_ _));exact BK586.out) hb)
 have n5_:=Aside0.mk (blk_below (g:=gb587) (o:=.cells #[.bool false,.slice none 0 0,.bool false,.slice none 0 0,.bool false,.slice none 0 0] 65 (0,0)) (by (with_reducible repeat (first|refine blk_drewN ?_ _|refine blk_drew ?_|refine blk_alloc ?_ _));exact BK587.out) hb)
 have n6_:=Aside0.mk (below_step (by repeat (first|(with_reducible first|exact HB.out|apply bA_|apply bN_|apply bD_|refine below_set ?_ GE586.out|refine below_set ?_ GE587.out)|exact HB.out)) hb)
 clear HO0_1
 clear HO0_3
 clear HO0_5
 clear BK586
 clear BK587
 clear HB
 have HO0_1:=n0_
 have HO0_3:=n1_
 have HO0_5:=n2_
 have HO591:=n3_
 have BK586:=n4_
 have BK587:=n5_
 have HB:=n6_
 clear n0_ n1_ n2_ n3_ n4_ n5_ n6_
 (try clear hb)
 (try clear hb2)
 (try clear hk)
 (try clear hi)
 (try clear ho0)
 refine hK.out _ _ ⟨(blk_cell BK586.out 0).trans rfl,(blk_cell BK586.out 1).trans rfl,(blk_cell BK586.out 2).trans rfl,(blk_cell BK586.out 3).trans rfl,(blk_cell BK586.out 4).trans rfl,(blk_cell BK586.out 5).trans rfl⟩ (fun hHeld=>?_)
 clear hK K
 refine norm_ (a':=?_) ?_ ?_
 rotate_left
 ·show Act.put _ (some 5) _=_
  simp only [Act.put,List.setIfInBounds_toArray,List.set_cons_zero,List.set_cons_succ,i64_w,i32_w]
  rfl
 refine one_ (i:=5) (N:=some 8) #[true,true,true,true,true,true,true,true,false,false,false] rfl rfl (one_of HT_.out (by kernel_rfl)) (by decide) (fun K hK=>?_)
 refine goes_ Try.func34 (by kernel_rfl) rfl #[.agg #[.bool a0_2,.slice A0_3 l0_3.length c0_3]] (by rfl) rfl rfl (by (try simp only [List.map_toArray,List.map_cons,List.map_nil]);first|done|rfl|(simp only [List.length_drop,List.length_take];rfl)) ?_
 with_reducible refine (merge_own.calls k a0_2 (fun k_=>(((((P0_1_ k_∨P0_3_ k_∨P0_5_ k_)∨w.heap.size≤k_)∧k_≠gb586)∧k_≠gb587)∧some k_≠(v590:Value).ownBlock)) _ _ l0_3 t592 t593 _ ?side1 A3.out).mono ?_
 (case side1=>exact HO0_3.out)
 rintro e w9 ⟨v594,rfl,ho0,hb⟩
 refine ⟨_,rfl,?_⟩
 have n0_:=Aside0.mk (Kd.V_elder' (by (with_reducible repeat (first|apply vA_|apply vN_|apply vD_));exact HO0_1.out) (Kd.N_base ho0) hb)
 have n1_:=Aside0.mk (Kd.V_elder' (by (with_reducible repeat (first|apply vA_|apply vN_|apply vD_));exact HO0_3.out) (Kd.N_base ho0) hb)
 have n2_:=Aside0.mk (Kd.V_elder' (by (with_reducible repeat (first|apply vA_|apply vN_|apply vD_));exact HO0_5.out) (Kd.N_base ho0) hb)
 have n3_:=Aside0.mk (Kd.N_elder' (by (with_reducible repeat (first|apply nA_|apply nN_|apply nD_));exact HO591.out) (Kd.N_base ho0) hb)
 have n4_:=Aside0.mk (Kd.N_lower (Kd.N_mono (ok':=fun k_=>((P0_1_ k_∨P0_3_ k_∨P0_5_ k_)∨w.heap.size≤k_)∧some k_≠(v590:Value).ownBlock∧k_≠gb586∧k_≠gb587) ho0 (fun k_ hk_=>⟨Or.elim hk_ (fun hs_=>hs_.1.1.1) (fun hn_=>(.inr (Nat.le_trans (below_size (by repeat (first|(with_reducible first|exact HB.out|apply bA_|apply bN_|apply bD_|refine below_set ?_ GE586.out|refine below_set ?_ GE587.out)|exact HB.out))) hn_))),Or.elim hk_ (fun hs_=>hs_.2) (fun hn_=>(Kd.fresh' (Kd.N_lt (by (with_reducible repeat (first|apply nA_|apply nN_|apply nD_));exact HO591.out)) k_ hn_)),Or.elim hk_ (fun hs_=>hs_.1.1.2) (fun hn_=>(Kd.freshB (g:=gb586) (o:=.cells #[.bool a0_0,.slice A0_1 l0_1.length c0_1,.bool a0_2,.slice A0_3 l0_3.length c0_3,.bool a0_4,.slice A0_5 l0_5.length c0_5] 65 (0,0)) (by (with_reducible repeat (first|refine blk_drewN ?_ _|refine blk_drew ?_|refine blk_alloc ?_ _));exact BK586.out) k_ hn_)),Or.elim hk_ (fun hs_=>hs_.1.2) (fun hn_=>(Kd.freshB (g:=gb587) (o:=.cells #[.bool false,.slice none 0 0,.bool false,.slice none 0 0,.bool false,.slice none 0 0] 65 (0,0)) (by (with_reducible repeat (first|refine blk_drewN ?_ _|refine blk_drew ?_|refine blk_alloc ?_ _));exact BK587.out) k_ hn_))⟩)) (below_size (by repeat (first|(with_reducible first|exact HB.out|apply bA_|apply bN_|apply bD_|refine below_set ?_ GE586.out|refine below_set ?_ GE587.out)|exact HB.out))))
 have n5_:=Aside0.mk (blk_below (g:=gb586) (o:=.cells #[.bool a0_0,.slice A0_1 l0_1.length c0_1,.bool a0_2,.slice A0_3 l0_3.length c0_3,.bool a0_4,.slice A0_5 l0_5.length c0_5] 65 (0,0)) (by (with_reducible repeat (first|refine blk_drewN ?_ _|refine blk_drew ?_|refine blk_alloc ?_ _));exact BK586.out) hb)
 have n6_:=Aside0.mk (blk_below (g:=gb587) (o:=.cells #[.bool false,.slice none 0 0,.bool false,.slice none 0 0,.bool false,.slice none 0 0] 65 (0,0)) (by (with_reducible repeat (first|refine blk_drewN ?_ _|refine blk_drew ?_|refine blk_alloc ?_ _));exact BK587.out) hb)
 have n7_:=Aside0.mk (below_step (by repeat (first|(with_reducible first|exact HB.out|apply bA_|apply bN_|apply bD_|refine below_set ?_ GE586.out|refine below_set ?_ GE587.out)|exact HB.out)) hb)
 clear HO0_1
 clear HO0_3
 clear HO0_5
 clear HO591
 clear BK586
 clear BK587
 clear HB
 have HO0_1:=n0_
 have HO0_3:=n1_
 have HO0_5:=n2_
 have HO591:=n3_
 have HO595:=n4_
 have BK586:=n5_
 have BK587:=n6_
 have HB:=n7_
 clear n0_ n1_ n2_ n3_ n4_ n5_ n6_ n7_
 (try clear hb)
 (try clear hb2)
 (try clear hk)
 (try clear hi)
 (try clear ho0)
 refine hK.out _ _ ⟨(blk_cell BK586.out 0).trans rfl,(blk_cell BK586.out 1).trans rfl,(blk_cell BK586.out 2).trans rfl,(blk_cell BK586.out 3).trans rfl,(blk_cell BK586.out 4).trans rfl,(blk_cell BK586.out 5).trans rfl⟩ (fun hHeld=>?_)
 clear hK K
 refine norm_ (a':=?_) ?_ ?_
 rotate_left
 ·show Act.put _ (some 8) _=_
  simp only [Act.put,List.setIfInBounds_toArray,List.set_cons_zero,List.set_cons_succ,i64_w,i32_w]
  rfl
 refine one_ (i:=8) (N:=some 11) #[true,true,true,true,true,true,true,true,true,false,false] rfl rfl (one_of HT_.out (by kernel_rfl)) (by decide) (fun K hK=>?_)
 refine goes_ Try.func34 (by kernel_rfl) rfl #[.agg #[.bool a0_4,.slice A0_5 l0_5.length c0_5]] (by rfl) rfl rfl (by (try simp only [List.map_toArray,List.map_cons,List.map_nil]);first|done|rfl|(simp only [List.length_drop,List.length_take];rfl)) ?_
 with_reducible refine (merge_own.calls k a0_4 (fun k_=>((((((P0_1_ k_∨P0_3_ k_∨P0_5_ k_)∨w.heap.size≤k_)∧k_≠gb586)∧k_≠gb587)∧some k_≠(v590:Value).ownBlock)∧some k_≠(v594:Value).ownBlock)) _ _ l0_5 t596 t597 _ ?side1 A4.out).mono ?_
 (case side1=>exact HO0_5.out)
 rintro e w10 ⟨v598,rfl,ho0,hb⟩
 refine ⟨_,rfl,?_⟩
 have n0_:=Aside0.mk (Kd.V_elder' (by (with_reducible repeat (first|apply vA_|apply vN_|apply vD_));exact HO0_1.out) (Kd.N_base ho0) hb)
 have n1_:=Aside0.mk (Kd.V_elder' (by (with_reducible repeat (first|apply vA_|apply vN_|apply vD_));exact HO0_3.out) (Kd.N_base ho0) hb)
 have n2_:=Aside0.mk (Kd.V_elder' (by (with_reducible repeat (first|apply vA_|apply vN_|apply vD_));exact HO0_5.out) (Kd.N_base ho0) hb)
 have n3_:=Aside0.mk (Kd.N_elder' (by (with_reducible repeat (first|apply nA_|apply nN_|apply nD_));exact HO591.out) (Kd.N_base ho0) hb)
 have n4_:=Aside0.mk (Kd.N_elder' (by (with_reducible repeat (first|apply nA_|apply nN_|apply nD_));exact HO595.out) (Kd.N_base ho0) hb)
 have n5_:=Aside0.mk (Kd.N_lower (Kd.N_mono (ok':=fun k_=>((P0_1_ k_∨P0_3_ k_∨P0_5_ k_)∨w.heap.size≤k_)∧some k_≠(v590:Value).ownBlock∧some k_≠(v594:Value).ownBlock∧k_≠gb586∧k_≠gb587) ho0 (fun k_ hk_=>⟨Or.elim hk_ (fun hs_=>hs_.1.1.1.1) (fun hn_=>(.inr (Nat.le_trans (below_size (by repeat (first|(with_reducible first|exact HB.out|apply bA_|apply bN_|apply bD_|refine below_set ?_ GE586.out|refine below_set ?_ GE587.out)|exact HB.out))) hn_))),Or.elim hk_ (fun hs_=>hs_.1.2) (fun hn_=>(Kd.fresh' (Kd.N_lt (by (with_reducible repeat (first|apply nA_|apply nN_|apply nD_));exact HO591.out)) k_ hn_)),Or.elim hk_ (fun hs_=>hs_.2) (fun hn_=>(Kd.fresh' (Kd.N_lt (by (with_reducible repeat (first|apply nA_|apply nN_|apply nD_));exact HO595.out)) k_ hn_)),Or.elim hk_ (fun hs_=>hs_.1.1.1.2) (fun hn_=>(Kd.freshB (g:=gb586) (o:=.cells #[.bool a0_0,.slice A0_1 l0_1.length c0_1,.bool a0_2,.slice A0_3 l0_3.length c0_3,.bool a0_4,.slice A0_5 l0_5.length c0_5] 65 (0,0)) (by (with_reducible repeat (first|refine blk_drewN ?_ _|refine blk_drew ?_|refine blk_alloc ?_ _));exact BK586.out) k_ hn_)),Or.elim hk_ (fun hs_=>hs_.1.1.2) (fun hn_=>(Kd.freshB (g:=gb587) (o:=.cells #[.bool false,.slice none 0 0,.bool false,.slice none 0 0,.bool false,.slice none 0 0] 65 (0,0)) (by (with_reducible repeat (first|refine blk_drewN ?_ _|refine blk_drew ?_|refine blk_alloc ?_ _));exact BK587.out) k_ hn_))⟩)) (below_size (by repeat (first|(with_reducible first|exact HB.out|apply bA_|apply bN_|apply bD_|refine below_set ?_ GE586.out|refine below_set ?_ GE587.out)|exact HB.out))))
 have n6_:=Aside0.mk (blk_below (g:=gb586) (o:=.cells #[.bool a0_0,.slice A0_1 l0_1.length c0_1,.bool a0_2,.slice A0_3 l0_3.length c0_3,.bool a0_4,.slice A0_5 l0_5.length c0_5] 65 (0,0)) (by (with_reducible repeat (first|refine blk_drewN ?_ _|refine blk_drew ?_|refine blk_alloc ?_ _));exact BK586.out) hb)
 have n7_:=Aside0.mk (blk_below (g:=gb587) (o:=.cells #[.bool false,.slice none 0 0,.bool false,.slice none 0 0,.bool false,.slice none 0 0] 65 (0,0)) (by (with_reducible repeat (first|refine blk_drewN ?_ _|refine blk_drew ?_|refine blk_alloc ?_ _));exact BK587.out) hb)
 have n8_:=Aside0.mk (below_step (by repeat (first|(with_reducible first|exact HB.out|apply bA_|apply bN_|apply bD_|refine below_set ?_ GE586.out|refine below_set ?_ GE587.out)|exact HB.out)) hb)
 clear HO0_1
 clear HO0_3
 clear HO0_5
 clear HO591
 clear HO595
 clear BK586
 clear BK587
 clear HB
 have HO0_1:=n0_
 have HO0_3:=n1_
 have HO0_5:=n2_
 have HO591:=n3_
 have HO595:=n4_
 have HO599:=n5_
 have BK586:=n6_
 have BK587:=n7_
 have HB:=n8_
 clear n0_ n1_ n2_ n3_ n4_ n5_ n6_ n7_ n8_
 (try clear hb)
 (try clear hb2)
 (try clear hk)
 (try clear hi)
 (try clear ho0)
 obtain ⟨Ao11,co11,eo11⟩:=Kd.N_slice HO599.out
 (first|subst eo11|(injection eo11 with f1_ f2_ f3_;have f4_:=f1_.symm;have f5_:=f3_.symm;clear f1_ f2_ f3_;subst f4_;subst f5_))
 obtain ⟨Ao12,co12,eo12⟩:=Kd.N_slice HO595.out
 (first|subst eo12|(injection eo12 with f1_ f2_ f3_;have f4_:=f1_.symm;have f5_:=f3_.symm;clear f1_ f2_ f3_;subst f4_;subst f5_))
 obtain ⟨Ao13,co13,eo13⟩:=Kd.N_slice HO591.out
 (first|subst eo13|(injection eo13 with f1_ f2_ f3_;have f4_:=f1_.symm;have f5_:=f3_.symm;clear f1_ f2_ f3_;subst f4_;subst f5_))
 refine hK.out _ _ ⟨(blk_cell BK586.out 0).trans rfl,(blk_cell BK586.out 1).trans rfl,(blk_cell BK586.out 2).trans rfl,(blk_cell BK586.out 3).trans rfl,(blk_cell BK586.out 4).trans rfl,(blk_cell BK586.out 5).trans rfl⟩ (fun hHeld=>?_)
 clear hK K
 refine norm_ (a':=?_) ?_ ?_
 rotate_left
 ·show Act.put _ (some 11) _=_
  simp only [Act.put,List.setIfInBounds_toArray,List.set_cons_zero,List.set_cons_succ,i64_w,i32_w]
  rfl
 refine pure_ (i:=9) (N:=some 12) (v:=?_) (a':=?_) #[true,true,true,true,true,true,true,true,true,true,false] rfl rfl (any_of HT_.out (by kernel_rfl)) (fun _ _ _ h=>h) (Or.inl ⟨by rfl,?_⟩) ?_ ?_
 rotate_left
 ·intro w'
  go_simp
  with_reducible rfl
 rotate_left
 ·simp only [Act.put,List.setIfInBounds_toArray,List.set_cons_zero,List.set_cons_succ,i64_w,i32_w]
  rfl
 refine one_ (i:=10) (N:=none) #[true,true,true,true,true,true,true,true,true,true,true] rfl rfl (one_of HT_.out (by kernel_rfl)) (by decide) (fun K hK=>?_)
 have hs14:w10.cell? ⟨gb587,0,none⟩=some (.bool false):=(blk_cell BK587.out 0).trans rfl
 have hfs14:=blk_frozen BK587.out 0
 have hns14_0:=NB586_587.out
 have hms14_0:=NB587_586.out
 have hs15:w10.cell? ⟨gb587,1,none⟩=some (.slice none 0 0):=(blk_cell BK587.out 1).trans rfl
 have hfs15:=blk_frozen BK587.out 1
 have hns15_0:=NB586_587.out
 have hms15_0:=NB587_586.out
 have hs16:w10.cell? ⟨gb587,2,none⟩=some (.bool false):=(blk_cell BK587.out 2).trans rfl
 have hfs16:=blk_frozen BK587.out 2
 have hns16_0:=NB586_587.out
 have hms16_0:=NB587_586.out
 have hs17:w10.cell? ⟨gb587,3,none⟩=some (.slice none 0 0):=(blk_cell BK587.out 3).trans rfl
 have hfs17:=blk_frozen BK587.out 3
 have hns17_0:=NB586_587.out
 have hms17_0:=NB587_586.out
 have hs18:w10.cell? ⟨gb587,4,none⟩=some (.bool false):=(blk_cell BK587.out 4).trans rfl
 have hfs18:=blk_frozen BK587.out 4
 have hns18_0:=NB586_587.out
 have hms18_0:=NB587_586.out
 have hs19:w10.cell? ⟨gb587,5,none⟩=some (.slice none 0 0):=(blk_cell BK587.out 5).trans rfl
 have hfs19:=blk_frozen BK587.out 5
 have hns19_0:=NB586_587.out
 have hms19_0:=NB587_586.out
 refine skip_ (w1:=?_) (by rfl) rfl ?_ ?_
 rotate_left
 ·go_simp
  rfl
 refine hK.out _ _ ⟨((cell_far (p:=⟨gb587,_,none⟩) NB586_587.out _).trans (((cell_far (p:=⟨gb587,_,none⟩) NB586_587.out _).trans (((cell_far (p:=⟨gb587,_,none⟩) NB586_587.out _).trans (((cell_far (p:=⟨gb587,_,none⟩) NB586_587.out _).trans (((cell_far (p:=⟨gb587,_,none⟩) NB586_587.out _).trans (((cell_far (p:=⟨gb587,_,none⟩) NB586_587.out _).trans (hHeld.1)))))))))))),((cell_far (p:=⟨gb587,_,none⟩) NB586_587.out _).trans (((cell_far (p:=⟨gb587,_,none⟩) NB586_587.out _).trans (((cell_far (p:=⟨gb587,_,none⟩) NB586_587.out _).trans (((cell_far (p:=⟨gb587,_,none⟩) NB586_587.out _).trans (((cell_far (p:=⟨gb587,_,none⟩) NB586_587.out _).trans (((cell_far (p:=⟨gb587,_,none⟩) NB586_587.out _).trans (hHeld.2.1)))))))))))),((cell_far (p:=⟨gb587,_,none⟩) NB586_587.out _).trans (((cell_far (p:=⟨gb587,_,none⟩) NB586_587.out _).trans (((cell_far (p:=⟨gb587,_,none⟩) NB586_587.out _).trans (((cell_far (p:=⟨gb587,_,none⟩) NB586_587.out _).trans (((cell_far (p:=⟨gb587,_,none⟩) NB586_587.out _).trans (((cell_far (p:=⟨gb587,_,none⟩) NB586_587.out _).trans (hHeld.2.2.1)))))))))))),((cell_far (p:=⟨gb587,_,none⟩) NB586_587.out _).trans (((cell_far (p:=⟨gb587,_,none⟩) NB586_587.out _).trans (((cell_far (p:=⟨gb587,_,none⟩) NB586_587.out _).trans (((cell_far (p:=⟨gb587,_,none⟩) NB586_587.out _).trans (((cell_far (p:=⟨gb587,_,none⟩) NB586_587.out _).trans (((cell_far (p:=⟨gb587,_,none⟩) NB586_587.out _).trans (hHeld.2.2.2.1)))))))))))),((cell_far (p:=⟨gb587,_,none⟩) NB586_587.out _).trans (((cell_far (p:=⟨gb587,_,none⟩) NB586_587.out _).trans (((cell_far (p:=⟨gb587,_,none⟩) NB586_587.out _).trans (((cell_far (p:=⟨gb587,_,none⟩) NB586_587.out _).trans (((cell_far (p:=⟨gb587,_,none⟩) NB586_587.out _).trans (((cell_far (p:=⟨gb587,_,none⟩) NB586_587.out _).trans (hHeld.2.2.2.2.1)))))))))))),((cell_far (p:=⟨gb587,_,none⟩) NB586_587.out _).trans (((cell_far (p:=⟨gb587,_,none⟩) NB586_587.out _).trans (((cell_far (p:=⟨gb587,_,none⟩) NB586_587.out _).trans (((cell_far (p:=⟨gb587,_,none⟩) NB586_587.out _).trans (((cell_far (p:=⟨gb587,_,none⟩) NB586_587.out _).trans (((cell_far (p:=⟨gb587,_,none⟩) NB586_587.out _).trans (hHeld.2.2.2.2.2))))))))))))⟩ (fun hHeld=>?_)
 clear hK K
 refine done_ (done_of HT_.out (by kernel_rfl)) ?_
 try go_wp2
 refine bodyPost_ret (results_cell_row rfl _ _ gb587 65 #[.bool t588,.slice Ao13 t589.length co13,.bool t592,.slice Ao12 t593.length co12,.bool t596,.slice Ao11 t597.length co11] (0,0) _ rfl (by (with_reducible repeat (first|refine blk_drewN ?_ _|refine blk_drew ?_|refine blk_alloc ?_ _));refine blk_put (cs:=#[.bool t588,.slice Ao13 t589.length co13,.bool t592,.slice Ao12 t593.length co12,.bool t596,.slice none 0 0]) ?_ 5 _ rfl;(with_reducible repeat (first|refine blk_drewN ?_ _|refine blk_drew ?_|refine blk_alloc ?_ _));refine blk_put (cs:=#[.bool t588,.slice Ao13 t589.length co13,.bool t592,.slice Ao12 t593.length co12,.bool false,.slice none 0 0]) ?_ 4 _ rfl;(with_reducible repeat (first|refine blk_drewN ?_ _|refine blk_drew ?_|refine blk_alloc ?_ _));refine blk_put (cs:=#[.bool t588,.slice Ao13 t589.length co13,.bool t592,.slice none 0 0,.bool false,.slice none 0 0]) ?_ 3 _ rfl;(with_reducible repeat (first|refine blk_drewN ?_ _|refine blk_drew ?_|refine blk_alloc ?_ _));refine blk_put (cs:=#[.bool t588,.slice Ao13 t589.length co13,.bool false,.slice none 0 0,.bool false,.slice none 0 0]) ?_ 2 _ rfl;(with_reducible repeat (first|refine blk_drewN ?_ _|refine blk_drew ?_|refine blk_alloc ?_ _));refine blk_put (cs:=#[.bool t588,.slice none 0 0,.bool false,.slice none 0 0,.bool false,.slice none 0 0]) ?_ 1 _ rfl;(with_reducible repeat (first|refine blk_drewN ?_ _|refine blk_drew ?_|refine blk_alloc ?_ _));refine blk_put (cs:=#[.bool false,.slice none 0 0,.bool false,.slice none 0 0,.bool false,.slice none 0 0]) ?_ 0 _ rfl;(with_reducible repeat (first|refine blk_drewN ?_ _|refine blk_drew ?_|refine blk_alloc ?_ _));exact BK587.out) Try.underlying65 rfl (by kernel_rfl)) rfl ?_
 exact ⟨_,_,_,by first|rfl|(simp [errW_none,errW_some] <;> rfl)|(simp [*,errW_none,errW_some] <;> rfl),by (with_reducible repeat (first|apply nA_|apply nN_|apply nD_));exact Kd.N_mono (Kd.N_far (p:=⟨gb587,5,none⟩) (Kd.N_far (p:=⟨gb587,4,none⟩) (Kd.N_far (p:=⟨gb587,3,none⟩) (Kd.N_far (p:=⟨gb587,2,none⟩) (Kd.N_far (p:=⟨gb587,1,none⟩) (Kd.N_far (p:=⟨gb587,0,none⟩) (Kd.N_mono HO591.out (fun k_ hk=>(⟨hk,hk.1.1.2.2⟩:_∧k_≠gb587))) (fun _ hk=>hk.2) (.bool t588)) (fun _ hk=>hk.2) (.slice Ao13 t589.length co13)) (fun _ hk=>hk.2) (.bool t592)) (fun _ hk=>hk.2) (.slice Ao12 t593.length co12)) (fun _ hk=>hk.2) (.bool t596)) (fun _ hk=>hk.2) (.slice Ao11 t597.length co11)) (fun _ hk=>⟨hk.1.1.1.1,⟨hk.1.1.2,hk.1.2⟩⟩),by (with_reducible repeat (first|apply nA_|apply nN_|apply nD_));exact Kd.N_mono (Kd.N_far (p:=⟨gb587,5,none⟩) (Kd.N_far (p:=⟨gb587,4,none⟩) (Kd.N_far (p:=⟨gb587,3,none⟩) (Kd.N_far (p:=⟨gb587,2,none⟩) (Kd.N_far (p:=⟨gb587,1,none⟩) (Kd.N_far (p:=⟨gb587,0,none⟩) (Kd.N_mono HO595.out (fun k_ hk=>(⟨hk,hk.1.2.2.2⟩:_∧k_≠gb587))) (fun _ hk=>hk.2) (.bool t588)) (fun _ hk=>hk.2) (.slice Ao13 t589.length co13)) (fun _ hk=>hk.2) (.bool t592)) (fun _ hk=>hk.2) (.slice Ao12 t593.length co12)) (fun _ hk=>hk.2) (.bool t596)) (fun _ hk=>hk.2) (.slice Ao11 t597.length co11)) (fun _ hk=>⟨hk.1.1.1,⟨hk.1.1.2.1,hk.1.2⟩⟩),by (with_reducible repeat (first|apply nA_|apply nN_|apply nD_));exact Kd.N_mono (Kd.N_far (p:=⟨gb587,5,none⟩) (Kd.N_far (p:=⟨gb587,4,none⟩) (Kd.N_far (p:=⟨gb587,3,none⟩) (Kd.N_far (p:=⟨gb587,2,none⟩) (Kd.N_far (p:=⟨gb587,1,none⟩) (Kd.N_far (p:=⟨gb587,0,none⟩) (Kd.N_mono HO599.out (fun k_ hk=>(⟨hk,hk.2.2.2.2⟩:_∧k_≠gb587))) (fun _ hk=>hk.2) (.bool t588)) (fun _ hk=>hk.2) (.slice Ao13 t589.length co13)) (fun _ hk=>hk.2) (.bool t592)) (fun _ hk=>hk.2) (.slice Ao12 t593.length co12)) (fun _ hk=>hk.2) (.bool t596)) (fun _ hk=>hk.2) (.slice Ao11 t597.length co11)) (fun _ hk=>⟨hk.1.1,⟨hk.1.2.1,hk.1.2.2.1⟩⟩),by repeat (first|(with_reducible first|exact HB.out|apply bA_|apply bN_|apply bD_|refine below_set ?_ GE586.out|refine below_set ?_ GE587.out)|exact HB.out)⟩
end Go.Proofs.Ytainbaehfdhmbaa.PX
namespace Go.Proofs.Ytainbaehfdhmbaa.PX
open Go.RowKit Go.Proofs.YtainbaehfdhmbaaW.PrintWords Go.Proofs.YtainbaehfdhmbaaW.PrintLast Go.Proofs.YtainbaehfdhmbaaW.PrintMore
attribute [local go_sem] max2_int min2_int max_two min_two max_three min_three max_four min_four   
set_option linter.unusedVariables false
set_option linter.unusedSimpArgs false
def merge_below.f (k:Nat) (a0_0:Bool) (l0_1:List (S51)) (a1:ByteArray):Option (Bool × (List (S51))):=(tree_Get.f k l0_1 (([a1]:List ByteArray))).bind fun bt605=>(some (bt605.2,bt605.1))
theorem merge_below.mono:∀ a0 a1 a2 k,LeO (merge_below.f k a0 a1 a2) (merge_below.f (k+1) a0 a1 a2):=by
 intro a0 a1 a2 k
 unfold merge_below.f
 repeat' first
   | (with_reducible exact tree_Get.mono _ _ _)
   | (with_reducible exact LeO.refl _)
   | (with_reducible exact LeO.none _)
   | (with_reducible refine LeO.ite ?_ ?_)
   | (with_reducible refine LeO.bind ?_ (fun _=>?_))
   | exact tree_Get.mono _ _ _
   | exact LeO.none _
   | refine LeO.ite ?_ ?_
   | refine LeO.bind ?_ (fun _=>?_)
set_option maxHeartbeats 8000000 in
set_option maxRecDepth 100000 in
theorem merge_below.calls (k:Nat) (a0_0:Bool) (P0_1_:Nat→Prop) (A0_1:Option Addr) (c0_1:Nat) (l0_1:List (S51)) (a1:ByteArray) (r1:Bool) (r2:List (S51)) (w:World) (hs0_1:Kd.V k51 51 w w.heap.size (fun k_=>P0_1_ k_) (.slice A0_1 l0_1.length c0_1) l0_1) (h:merge_below.f k a0_0 l0_1 a1=some (r1,r2)) :
  Calls Try.prog 38 #[.agg #[.bool a0_0,.slice A0_1 l0_1.length c0_1],.string a1] w fun e w'=>∃ v1_:Value,e=.returned (.agg #[.bool r1,v1_])∧Kd.N k51 51 w' w.heap.size (fun k_=>(P0_1_ k_∨w.heap.size≤k_)) v1_ r2∧Below w.heap.size w w':=by
 have hu26:=Try.underlying26
 have HO0_1:=Aside0.mk (show Kd.V k51 51 w w.heap.size (fun k_=>(P0_1_ k_∨w.heap.size≤k_)) (.slice A0_1 l0_1.length c0_1) l0_1 from Kd.V_mono hs0_1 (fun k_ hk=>.inl hk))
 have HB:=Aside0.mk (Below.refl w.heap.size w)
 have H:((tree_Get.f k l0_1 (([a1]:List ByteArray))).bind fun bt605=>(some (bt605.2,bt605.1)))=some (r1,r2):=h
 clear h
 obtain ⟨y602,hy602⟩:∃ y_:List ByteArray,y_=(([a1]:List ByteArray)):=⟨_,rfl⟩
 replace H:((tree_Get.f k l0_1 y602).bind fun bt605=>(some (bt605.2,bt605.1)))=some (r1,r2):=by first|(rw [hy602];with_reducible exact H)|(have H2_:=(Option.bind_some _ _).symm.trans H;rw [hy602];with_reducible exact H2_)|(have H2_:=(Option.bind_some _ _).symm.trans H;with_reducible exact H2_)|with_reducible exact H|(rw [hy602];exact H)|exact H
 have Ny602:=Aside0.mk hy602
 clear hy602
 replace H:=Option.bind_eq_some_iff.mp H
 obtain ⟨⟨t605,t608⟩,A30,H⟩:=H
 replace H:(some (t608,t605))=some (r1,r2):=H
 have A3:=Aside0.mk A30
 clear A30
 simp only [Option.some.injEq,Prod.mk.injEq] at H
 obtain ⟨rfl,rfl⟩:=H
 go_enter Try.func38,Try.ntmps38
 go_wp2_with (first|((with_reducible refine gate_dst (N:=2) rfl ?_);refine box_event ?hg (N:=2) ?hd (cs:=#[.bool a0_0,.slice A0_1 l0_1.length c0_1]) (t:=26) ?hr ?_;(case hd=>rfl);(case hg=>rfl);(case hr=>first|(go_simp;done)|(go_simp;rfl));intro gb600 hg w4 hbox hb;have n0_:=Aside0.mk (Kd.V_below (Kd.V_elderB (by (with_reducible repeat (first|apply vA_|apply vN_|apply vD_));exact HO0_1.out) gb600 (Nat.le_of_eq hg.symm)) hb);have n1_:=Aside0.mk (below_step (by repeat (first|(with_reducible first|exact HB.out|apply bA_|apply bN_|apply bD_)|exact HB.out)) hb);have n2_:=Aside0.mk (hbox);have n3_:=Aside0.mk ((by rw [hg];exact (below_size (by repeat (first|(with_reducible first|exact HB.out|apply bA_|apply bN_|apply bD_)|exact HB.out))):w.heap.size≤gb600));have n4_:=Aside0.mk ((by rw [hg];exact (below_size (by repeat (first|(with_reducible first|exact HB.out|apply bA_|apply bN_|apply bD_)|exact HB.out))):w.heap.size≤gb600));clear HO0_1;clear HB;have HO0_1:=n0_;have HB:=n1_;have BK600:=n2_;have GW600:=n3_;have GE600:=n4_;clear n0_ n1_ n2_ n3_ n4_;clear hb hbox hg)|((with_reducible refine gate_dst (N:=4) rfl ?_);refine box_event ?hg (N:=4) ?hd (cs:=#[.bool false,.slice none 0 0]) (t:=26) ?hr ?_;(case hd=>rfl);(case hg=>rfl);(case hr=>first|(go_simp;done)|(go_simp;rfl));intro gb601 hg w5 hbox hb;have n0_:=Aside0.mk (Kd.V_below (Kd.V_elderB (by (with_reducible repeat (first|apply vA_|apply vN_|apply vD_));exact HO0_1.out) gb601 (Nat.le_of_eq hg.symm)) hb);have n1_:=Aside0.mk (blk_below (g:=gb600) (o:=.cells #[.bool a0_0,.slice A0_1 l0_1.length c0_1] 26 (0,0)) (by (with_reducible repeat (first|refine blk_drewN ?_ _|refine blk_drew ?_|refine blk_alloc ?_ _));exact BK600.out) hb);have n2_:=Aside0.mk (below_step (by repeat (first|(with_reducible first|exact HB.out|apply bA_|apply bN_|apply bD_|refine below_set ?_ GE600.out)|exact HB.out)) hb);have n3_:=Aside0.mk (hbox);have n4_:=Aside0.mk ((by rw [hg];exact (below_size (by repeat (first|(with_reducible first|exact HB.out|apply bA_|apply bN_|apply bD_|refine below_set ?_ GE600.out)|exact HB.out))):w.heap.size≤gb601));have n5_:=Aside0.mk ((by rw [hg];exact (below_size (by repeat (first|(with_reducible first|exact HB.out|apply bA_|apply bN_|apply bD_|refine below_set ?_ GE600.out)|exact HB.out))):w.heap.size≤gb601));have n6_:=Aside0.mk ((by rw [hg];exact Nat.ne_of_lt (blk_lt (g:=gb600) (o:=.cells #[.bool a0_0,.slice A0_1 l0_1.length c0_1] 26 (0,0)) (by (with_reducible repeat (first|refine blk_drewN ?_ _|refine blk_drew ?_|refine blk_alloc ?_ _));exact BK600.out)):gb600≠gb601));have n7_:=Aside0.mk ((by rw [hg];exact Nat.ne_of_gt (blk_lt (g:=gb600) (o:=.cells #[.bool a0_0,.slice A0_1 l0_1.length c0_1] 26 (0,0)) (by (with_reducible repeat (first|refine blk_drewN ?_ _|refine blk_drew ?_|refine blk_alloc ?_ _));exact BK600.out)):gb601≠gb600));clear HO0_1;clear BK600;clear HB;have HO0_1:=n0_;have BK600:=n1_;have HB:=n2_;have BK601:=n3_;have GW601:=n4_;have GE601:=n5_;have NB600_601:=n6_;have NB601_600:=n7_;clear n0_ n1_ n2_ n3_ n4_ n5_ n6_ n7_;clear hb hbox hg;have hnb6:=NB600_601.out;have hnc6:=NB601_600.out;have hcz7_0:w5.cell? ⟨gb600,0,none⟩=some (.bool a0_0):=(blk_cell BK600.out 0).trans rfl;have hcz7_1:w5.cell? ⟨gb600,1,none⟩=some (.slice A0_1 l0_1.length c0_1):=(blk_cell BK600.out 1).trans rfl;have hfz7_0:=blk_frozen BK600.out 0;have hfz7_1:=blk_frozen BK600.out 1)|((with_reducible refine gate_dst (N:=11) rfl ?_);refine Kd.R_lit Kd.string _ 9 ?hg (N:=11) ?hd (xs:=([a1]:List ByteArray)) (inner:=[.string a1]) (ok:=fun _=>True) (okp:=fun _=>True) ?hr ?hp (fun _ hk=>hk) trivial (Below.refl _ _) (Nat.le_refl _) (by simp) ?_;(case hd=>rfl);(case hg=>rfl);(case hr=>first|(go_simp;done)|(go_simp;rfl));(case hp=>exact (Reps.one (show Kd.M Kd.string _ _ _ a1 [.string a1] from rfl) (Reps.none _ _)));intro v603 w8 ho9 hb hg_ hnew_;clear hg_ hnew_;(first|rw [← Ny602.out] at ho9|(simp only [Int.reduceToNat] at ho9;rw [← Ny602.out] at ho9));have n0_:=Aside0.mk (Kd.V_elder' (by (with_reducible repeat (first|apply vA_|apply vN_|apply vD_));exact HO0_1.out) (Kd.R_base ho9) hb);have n1_:=Aside0.mk (Kd.R_lower (Kd.R_newM (M:=fun k_=>(w.heap.size≤k_)) ho9 (below_size (by repeat (first|(with_reducible first|exact HB.out|apply bA_|apply bN_|apply bD_|refine below_set ?_ GE600.out|refine below_set ?_ GE601.out)|exact HB.out))) (fun k_ h_=>h_)) (below_size (by repeat (first|(with_reducible first|exact HB.out|apply bA_|apply bN_|apply bD_|refine below_set ?_ GE600.out|refine below_set ?_ GE601.out)|exact HB.out))));have n2_:=Aside0.mk (blk_below (g:=gb600) (o:=.cells #[.bool a0_0,.slice A0_1 l0_1.length c0_1] 26 (0,0)) (by (with_reducible repeat (first|refine blk_drewN ?_ _|refine blk_drew ?_|refine blk_alloc ?_ _));exact BK600.out) hb);have n3_:=Aside0.mk (blk_below (g:=gb601) (o:=.cells #[.bool false,.slice none 0 0] 26 (0,0)) (by (with_reducible repeat (first|refine blk_drewN ?_ _|refine blk_drew ?_|refine blk_alloc ?_ _));exact BK601.out) hb);have n4_:=Aside0.mk (below_step (by repeat (first|(with_reducible first|exact HB.out|apply bA_|apply bN_|apply bD_|refine below_set ?_ GE600.out|refine below_set ?_ GE601.out)|exact HB.out)) hb);clear HO0_1;clear BK600;clear BK601;clear HB;have HO0_1:=n0_;have HO604:=n1_;have BK600:=n2_;have BK601:=n3_;have HB:=n4_;clear n0_ n1_ n2_ n3_ n4_;clear hb ho9;obtain ⟨Ao10,co10,eo10⟩:=Kd.R_slice HO604.out;subst eo10)|((with_reducible refine gate_callee (f:=47) rfl ?_);refine goesL_ (some 12) rfl rfl Try.func47 (by kernel_rfl) rfl #[.slice A0_1 l0_1.length c0_1,.slice Ao10 y602.length co10] rfl (by (try simp only [List.map_toArray,List.map_cons,List.map_nil]);first|done|rfl|(simp only [List.length_drop,List.length_take];rfl)) ?_;(with_reducible refine (tree_Get.calls k (fun k_=>((((P0_1_ k_∨w.heap.size≤k_)∧k_≠gb600)∧k_≠gb601)∧some k_≠(.slice Ao10 y602.length co10:Value).ownBlock)) _ _ l0_1 _ _ y602 t605 t608 _ ?side1 ?side2 ?side3 A3.out).mono ?_);(case side1=>exact HO0_1.out);(case side2=>repeat (first|exact (Kd.R_reads' HO604.out).2.2|(with_reducible refine cA_ ?_ _)|(with_reducible refine cN_ ?_ _)|(with_reducible refine cD_ ?_)));(case side3=>exact (Kd.R_reads' HO604.out).2.1);rintro e w11 ⟨v606,rfl,ho0,hb⟩;refine ⟨_,rfl,?_⟩;have n0_:=Aside0.mk (Kd.V_elder' (by (with_reducible repeat (first|apply vA_|apply vN_|apply vD_));exact HO0_1.out) (Kd.N_base ho0) hb);have n1_:=Aside0.mk (Kd.R_below (by (with_reducible repeat (first|apply rA_|apply rN_|apply rD_));exact HO604.out) hb);have n2_:=Aside0.mk (Kd.N_lower (Kd.N_mono (ok':=fun k_=>(P0_1_ k_∨w.heap.size≤k_)∧some k_≠(.slice Ao10 y602.length co10:Value).ownBlock∧k_≠gb600∧k_≠gb601) ho0 (fun k_ hk_=>⟨Or.elim hk_ (fun hs_=>hs_.1.1.1) (fun hn_=>(.inr (Nat.le_trans (below_size (by repeat (first|(with_reducible first|exact HB.out|apply bA_|apply bN_|apply bD_|refine below_set ?_ GE600.out|refine below_set ?_ GE601.out)|exact HB.out))) hn_))),Or.elim hk_ (fun hs_=>hs_.2) (fun hn_=>(Kd.fresh' (Kd.R_lt (by (with_reducible repeat (first|apply rA_|apply rN_|apply rD_));exact HO604.out)) k_ hn_)),Or.elim hk_ (fun hs_=>hs_.1.1.2) (fun hn_=>(Kd.freshB (g:=gb600) (o:=.cells #[.bool a0_0,.slice A0_1 l0_1.length c0_1] 26 (0,0)) (by (with_reducible repeat (first|refine blk_drewN ?_ _|refine blk_drew ?_|refine blk_alloc ?_ _));exact BK600.out) k_ hn_)),Or.elim hk_ (fun hs_=>hs_.1.2) (fun hn_=>(Kd.freshB (g:=gb601) (o:=.cells #[.bool false,.slice none 0 0] 26 (0,0)) (by (with_reducible repeat (first|refine blk_drewN ?_ _|refine blk_drew ?_|refine blk_alloc ?_ _));exact BK601.out) k_ hn_))⟩)) (below_size (by repeat (first|(with_reducible first|exact HB.out|apply bA_|apply bN_|apply bD_|refine below_set ?_ GE600.out|refine below_set ?_ GE601.out)|exact HB.out))));have n3_:=Aside0.mk (blk_below (g:=gb600) (o:=.cells #[.bool a0_0,.slice A0_1 l0_1.length c0_1] 26 (0,0)) (by (with_reducible repeat (first|refine blk_drewN ?_ _|refine blk_drew ?_|refine blk_alloc ?_ _));exact BK600.out) hb);have n4_:=Aside0.mk (blk_below (g:=gb601) (o:=.cells #[.bool false,.slice none 0 0] 26 (0,0)) (by (with_reducible repeat (first|refine blk_drewN ?_ _|refine blk_drew ?_|refine blk_alloc ?_ _));exact BK601.out) hb);have n5_:=Aside0.mk (below_step (by repeat (first|(with_reducible first|exact HB.out|apply bA_|apply bN_|apply bD_|refine below_set ?_ GE600.out|refine below_set ?_ GE601.out)|exact HB.out)) hb);clear HO0_1;clear HO604;clear BK600;clear BK601;clear HB;have HO0_1:=n0_;have HO604:=n1_;have HO607:=n2_;have BK600:=n3_;have BK601:=n4_;have HB:=n5_;clear n0_ n1_ n2_ n3_ n4_ n5_;(try clear hb);(try clear hb2);(try clear hk);(try clear hi);(try clear ho0);obtain ⟨Ao12,co12,eo12⟩:=Kd.N_slice HO607.out;subst eo12;have hcz13_0:w11.cell? ⟨gb601,0,none⟩=some (.bool false):=(blk_cell BK601.out 0).trans rfl;have hcz13_1:w11.cell? ⟨gb601,1,none⟩=some (.slice none 0 0):=(blk_cell BK601.out 1).trans rfl;have hfz13_0:=blk_frozen BK601.out 0;have hfz13_1:=blk_frozen BK601.out 1))
 refine bodyPost_ret (results_cell_row rfl _ _ gb601 26 #[.bool t608,.slice Ao12 t605.length co12] (0,0) _ rfl (by (with_reducible repeat (first|refine blk_drewN ?_ _|refine blk_drew ?_|refine blk_alloc ?_ _));refine blk_put (cs:=#[.bool t608,.slice none 0 0]) ?_ 1 _ rfl;(with_reducible repeat (first|refine blk_drewN ?_ _|refine blk_drew ?_|refine blk_alloc ?_ _));refine blk_put (cs:=#[.bool false,.slice none 0 0]) ?_ 0 _ rfl;(with_reducible repeat (first|refine blk_drewN ?_ _|refine blk_drew ?_|refine blk_alloc ?_ _));exact BK601.out) Try.underlying26 rfl (by kernel_rfl)) rfl ?_
 exact ⟨_,by first|rfl|(simp [errW_none,errW_some] <;> rfl)|(simp [*,errW_none,errW_some] <;> rfl),by (with_reducible repeat (first|apply nA_|apply nN_|apply nD_));exact Kd.N_mono (Kd.N_far (p:=⟨gb601,1,none⟩) (Kd.N_far (p:=⟨gb601,0,none⟩) (Kd.N_mono HO607.out (fun k_ hk=>(⟨hk,hk.2.2.2⟩:_∧k_≠gb601))) (fun _ hk=>hk.2) (.bool t608)) (fun _ hk=>hk.2) (.slice Ao12 t605.length co12)) (fun _ hk=>hk.1.1),by repeat (first|(with_reducible first|exact HB.out|apply bA_|apply bN_|apply bD_|refine below_set ?_ GE600.out|refine below_set ?_ GE601.out)|exact HB.out)⟩
end Go.Proofs.Ytainbaehfdhmbaa.PX
set_option linter.unusedVariables false
namespace Go.Proofs.Ytainbaehfdhmbaa.PX
open Go.RowKit Go.Proofs.YtainbaehfdhmbaaW.PrintWords Go.Proofs.YtainbaehfdhmbaaW.PrintLast Go.Proofs.YtainbaehfdhmbaaW.PrintMore Go.Proofs.Ytainbaehfdhmbaa
abbrev OT := Bool × Tr
abbrev T3 := OT × OT × OT
def OOk (W d : Nat) (x : OT) : Prop := Ok W d x.2 ∧ (x.1 = false → x.2 = [])
def sameO (x y : OT) : Bool := if (x.1 == y.1) = true then eqT x.2 y.2 else false
def kidO (x : OT) (n : ByteArray) : OT := ((kid x.2 n).isSome, (kid x.2 n).getD [])
def stepM (rec : Int → List ByteArray → OT → OT → OT → T3 × List Cf) (s : Sc) (d : Int) (p : List ByteArray) (o a b : OT) (acc : (Tr × Tr × Tr) × List Cf) (n : ByteArray) : (Tr × Tr × Tr) × List Cf :=
  let r := rec (toM s d n) (p ++ [n]) (kidO o n) (kidO a n) (kidO b n)
  ((withE acc.1.1 n r.1.1.1 r.1.1.2, withE acc.1.2.1 n r.1.2.1.1 r.1.2.1.2, withE acc.1.2.2 n r.1.2.2.1 r.1.2.2.2), acc.2 ++ r.2)
def edgesM (rec : Int → List ByteArray → OT → OT → OT → T3 × List Cf) (s : Sc) (d : Int) (p : List ByteArray) (o a b : OT) : (Tr × Tr × Tr) × List Cf :=
  (namesOf [o.2, a.2, b.2]).foldl (stepM rec s d p o a b) (([], [], []), [])
def mergeM (s : Sc) : Nat → Int → List ByteArray → OT → OT → OT → T3 × List Cf
  | 0, _, p, o, a, b => if (sameO a b || sameO b o) = true then ((a, a, a), []) else if sameO a o = true then ((b, b, b), []) else ((o, a, b), [⟨p, 1⟩])
  | k + 1, d, p, o, a, b =>
    if (sameO a b || sameO b o) = true then ((a, a, a), [])
    else if sameO a o = true then ((b, b, b), [])
    else if (!a.1 || !b.1) = true then ((o, a, b), [⟨p, 1⟩])
    else if (levelM s d (edgesM (mergeM s k) s d p o a b).1.2.1 && levelM s d (edgesM (mergeM s k) s d p o a b).1.2.2) = true then
      (((true, (edgesM (mergeM s k) s d p o a b).1.1), (true, (edgesM (mergeM s k) s d p o a b).1.2.1), (true, (edgesM (mergeM s k) s d p o a b).1.2.2)), (edgesM (mergeM s k) s d p o a b).2)
    else ((o, a, b), [⟨p, 2⟩])
theorem OOk.kid {W d : Nat} {x : OT} (h : OOk W (d + 1) x) (n : ByteArray) : OOk W d (kidO x n) := by
  refine ⟨h.1.kid0, fun e => ?_⟩
  show (PX.kid x.2 n).getD [] = []
  cases hk : PX.kid x.2 n with
  | none => rfl
  | some t => rw [show (kidO x n).1 = (PX.kid x.2 n).isSome from rfl, hk] at e; cases e
theorem ok_trOk (W : Nat) (hW : W ≤ 1000000) : ∀ (d : Nat) (t : Tr), Ok W d t → trOk t = true
  | 0, t, h => by rw [show t = [] from h]; rw [trOk_eq]; rfl
  | d + 1, t, h => by
    rw [trOk_eq, Bool.and_eq_true, decide_eq_true_eq, List.all_eq_true]
    exact ⟨by have := h.1; omega, fun x hx => ok_trOk W hW d x.f1 (h.2.2 x hx)⟩
theorem same_f {W d : Nat} (hW : W ≤ 1000000) {x y : OT} (hx : OOk W d x) : merge_same.f x.1 x.2 y.1 y.2 = some (sameO x y) := by
  unfold merge_same.f tree_Same.f sameO
  by_cases h : (x.1 == y.1) = true
  · rw [if_pos h, if_pos h, if_pos (ok_trOk W hW d _ hx.1), Option.bind_some]
  · rw [if_neg h, if_neg h]
theorem ownO_ev {W d : Nat} (hW : W ≤ 1000000) {x : OT} (hx : OOk W d x) : Ev (fun k => merge_own.f k x.1 x.2) x := by
  obtain ⟨b, t⟩ := x
  cases b with
  | false =>
    have e : t = [] := hx.2 rfl
    subst e
    exact ⟨0, fun k _ => by show merge_own.f k false [] = some (false, []); unfold merge_own.f; rw [if_neg Bool.false_ne_true]⟩
  | true =>
    obtain ⟨K, h⟩ := get_ev hW [] hx.1 (by simp)
    refine ⟨K, fun k hk => ?_⟩
    have h : tree_Get.f k t [] = some (t, true) := h k hk
    show merge_own.f k true t = some (true, t)
    unfold merge_own.f
    rw [if_pos rfl, h]
    rfl
theorem allO_ev {W d : Nat} (hW : W ≤ 1000000) {x : OT} (hx : OOk W d x) : Ev (fun k => merge_all.f k x.1 x.2) (x.1, x.2, x.1, x.2, x.1, x.2) := by
  obtain ⟨K, h⟩ := ownO_ev hW hx
  refine ⟨K, fun k hk => ?_⟩
  have h : merge_own.f k x.1 x.2 = some x := h k hk
  show merge_all.f k x.1 x.2 = _
  unfold merge_all.f
  rw [h]
  rfl
theorem stayO_ev {W d : Nat} (hW : W ≤ 1000000) {o a b : OT} (ho : OOk W d o) (ha : OOk W d a) (hb : OOk W d b) : Ev (fun k => merge_stay.f k o.1 o.2 a.1 a.2 b.1 b.2) (o.1, o.2, a.1, a.2, b.1, b.2) := by
  obtain ⟨K1, h1⟩ := ownO_ev hW ho
  obtain ⟨K2, h2⟩ := ownO_ev hW ha
  obtain ⟨K3, h3⟩ := ownO_ev hW hb
  refine ⟨K1 + K2 + K3, fun k hk => ?_⟩
  have h1 : merge_own.f k o.1 o.2 = some o := h1 k (by omega)
  have h2 : merge_own.f k a.1 a.2 = some a := h2 k (by omega)
  have h3 : merge_own.f k b.1 b.2 = some b := h3 k (by omega)
  show merge_stay.f k o.1 o.2 a.1 a.2 b.1 b.2 = _
  unfold merge_stay.f
  rw [h1, h2, h3]
  rfl
theorem belowO_ev {W d : Nat} (hW : W ≤ 1000000) {x : OT} (hx : OOk W d x) (n : ByteArray) : Ev (fun k => merge_below.f k x.1 x.2 n) (kidO x n) := by
  obtain ⟨K, h⟩ := get_ev hW [n] hx.1 (by simp)
  refine ⟨K, fun k hk => ?_⟩
  have h : tree_Get.f k x.2 [n] = some (getR x.2 [n]) := h k hk
  show merge_below.f k x.1 x.2 n = _
  unfold merge_below.f
  rw [h, getR_one]
  rfl
end Go.Proofs.Ytainbaehfdhmbaa.PX
set_option linter.unusedVariables false
namespace Go.Proofs.Ytainbaehfdhmbaa.PX
open Go.RowKit Go.Proofs.YtainbaehfdhmbaaW.PrintWords Go.Proofs.YtainbaehfdhmbaaW.PrintLast Go.Proofs.YtainbaehfdhmbaaW.PrintMore Go.Proofs.Ytainbaehfdhmbaa
theorem names3_length {wd D : Nat} {o a b : OT} (ho : OOk wd D o) (ha : OOk wd D a) (hb : OOk wd D b) : (namesOf [o.2, a.2, b.2]).length ≤ 3 * wd := by
  refine Nat.le_trans (namesOf_length _) ?_
  have h1 := ho.1.length
  have h2 := ha.1.length
  have h3 := hb.1.length
  simp only [nms, List.flatMap_cons, List.flatMap_nil, List.length_append, List.length_map, List.length_nil]
  omega
theorem fold_len (rec : Int → List ByteArray → OT → OT → OT → T3 × List Cf) (s : Sc) (d : Int) (p : List ByteArray) (o a b : OT) (B : Nat) (hB : ∀ d' p' n, (rec d' p' (kidO o n) (kidO a n) (kidO b n)).2.length ≤ B) :
    ∀ (ns : List ByteArray) (acc : (Tr × Tr × Tr) × List Cf), (ns.foldl (stepM rec s d p o a b) acc).2.length ≤ acc.2.length + ns.length * B
  | [], acc => by simp
  | n :: ns, acc => by
    rw [List.foldl_cons]
    have h1 := fold_len rec s d p o a b B hB ns (stepM rec s d p o a b acc n)
    have h2 : (stepM rec s d p o a b acc n).2.length ≤ acc.2.length + B := by
      show (acc.2 ++ _).length ≤ _
      rw [List.length_append]
      have := hB (toM s d n) (p ++ [n]) n
      omega
    rw [List.length_cons, Nat.succ_mul]
    omega
theorem fold_lens (rec : Int → List ByteArray → OT → OT → OT → T3 × List Cf) (s : Sc) (d : Int) (p : List ByteArray) (o a b : OT) :
    ∀ (ns : List ByteArray) (acc : (Tr × Tr × Tr) × List Cf), (ns.foldl (stepM rec s d p o a b) acc).1.1.length ≤ acc.1.1.length + ns.length ∧ (ns.foldl (stepM rec s d p o a b) acc).1.2.1.length ≤ acc.1.2.1.length + ns.length ∧ (ns.foldl (stepM rec s d p o a b) acc).1.2.2.length ≤ acc.1.2.2.length + ns.length
  | [], acc => by simp
  | n :: ns, acc => by
    rw [List.foldl_cons, List.length_cons]
    have hw : ∀ (t : Tr) (b : Bool) (x : Tr), (withE t n b x).length ≤ t.length + 1 := fun t b x => by
      unfold withE
      split <;> simp
    obtain ⟨h1, h2, h3⟩ := fold_lens rec s d p o a b ns (stepM rec s d p o a b acc n)
    have g1 : (stepM rec s d p o a b acc n).1.1.length ≤ acc.1.1.length + 1 := hw _ _ _
    have g2 : (stepM rec s d p o a b acc n).1.2.1.length ≤ acc.1.2.1.length + 1 := hw _ _ _
    have g3 : (stepM rec s d p o a b acc n).1.2.2.length ≤ acc.1.2.2.length + 1 := hw _ _ _
    omega
theorem mergeM_len {wd : Nat} (hw : 1 ≤ wd) (s : Sc) : ∀ (k : Nat) (d : Int) (p : List ByteArray) (o a b : OT), OOk wd k o → OOk wd k a → OOk wd k b → (mergeM s k d p o a b).2.length ≤ (3 * wd) ^ k
  | 0, d, p, o, a, b, _, _, _ => by
    unfold mergeM
    split
    · simp
    · split <;> simp
  | k + 1, d, p, o, a, b, ho, ha, hb => by
    have h1 : 1 ≤ (3 * wd) ^ (k + 1) := Nat.one_le_pow _ _ (by omega)
    unfold mergeM
    split
    · simp
    · split
      · simp
      · split
        · simpa using h1
        · split
          · have h2 := fold_len (mergeM s k) s d p o a b ((3 * wd) ^ k) (fun d' p' n => mergeM_len hw s k d' p' _ _ _ (ho.kid n) (ha.kid n) (hb.kid n)) (namesOf [o.2, a.2, b.2]) (([], [], []), [])
            have h3 := names3_length ho ha hb
            show (edgesM (mergeM s k) s d p o a b).2.length ≤ _
            unfold edgesM
            refine Nat.le_trans h2 ?_
            rw [Nat.pow_succ, Nat.mul_comm ((3 * wd) ^ k)]
            simp only [List.length_nil, Nat.zero_add]
            exact Nat.mul_le_mul_right _ h3
          · simpa using h1
end Go.Proofs.Ytainbaehfdhmbaa.PX
set_option linter.unusedVariables false
set_option linter.unusedSimpArgs false
namespace Go.Proofs.Ytainbaehfdhmbaa.PX
open Go.RowKit Go.Proofs.YtainbaehfdhmbaaW.PrintWords Go.Proofs.YtainbaehfdhmbaaW.PrintLast Go.Proofs.YtainbaehfdhmbaaW.PrintMore Go.Proofs.Ytainbaehfdhmbaa
theorem sameO_iff {x y : OT} : sameO x y = true ↔ x = y := by
  obtain ⟨b, t⟩ := x
  obtain ⟨c, u⟩ := y
  unfold sameO
  constructor
  · intro h
    split at h
    · rename_i hb
      rw [show b = c from eq_of_beq hb, show t = u from eqT_eq.1 h]
    · cases h
  · intro h
    injection h with h1 h2
    subst h1
    subst h2
    rw [if_pos (beq_self_eq_true _)]
    exact eqT_eq.2 rfl
theorem sameO_self (x : OT) : sameO x x = true := sameO_iff.2 rfl
theorem sameO_ne {x y : OT} (h : x ≠ y) : sameO x y = false := by
  cases e : sameO x y with
  | false => rfl
  | true => exact absurd (sameO_iff.1 e) h
theorem mergeM_ab (s : Sc) (k : Nat) (d : Int) (p : List ByteArray) (o a : OT) : mergeM s k d p o a a = ((a, a, a), []) := by
  cases k <;> (rw [mergeM]; simp only [sameO_self, Bool.true_or, if_true])
theorem mergeM_bo (s : Sc) (k : Nat) (d : Int) (p : List ByteArray) (o a : OT) : mergeM s k d p o a o = ((a, a, a), []) := by
  cases k <;> (rw [mergeM]; simp only [sameO_self, Bool.or_true, if_true])
theorem mergeM_ao (s : Sc) (k : Nat) (d : Int) (p : List ByteArray) (a b : OT) : mergeM s k d p a a b = ((b, b, b), []) := by
  by_cases h : a = b
  · subst h
    exact mergeM_ab s k d p a a
  · have h2 := sameO_ne h
    have h3 := sameO_ne (Ne.symm h)
    cases k <;> (rw [mergeM]; simp only [h2, h3, sameO_self, Bool.or_self, Bool.false_eq_true, if_false, if_true])
theorem mergeM_gone (s : Sc) (k : Nat) (d : Int) (p : List ByteArray) {o a b : OT} (h1 : a ≠ b) (h2 : b ≠ o) (h3 : a ≠ o) (h : (!a.1 || !b.1) = true) : mergeM s k d p o a b = ((o, a, b), [⟨p, 1⟩]) := by
  cases k <;> (rw [mergeM]; simp only [sameO_ne h1, sameO_ne h2, sameO_ne h3, h, Bool.or_self, Bool.false_eq_true, if_false, if_true])
theorem mergeM_edges (s : Sc) (k : Nat) (d : Int) (p : List ByteArray) {o a b : OT} (h1 : a ≠ b) (h2 : b ≠ o) (h3 : a ≠ o) (ha : a.1 = true) (hb : b.1 = true) :
    mergeM s (k + 1) d p o a b = if (levelM s d (edgesM (mergeM s k) s d p o a b).1.2.1 && levelM s d (edgesM (mergeM s k) s d p o a b).1.2.2) = true then
      (((true, (edgesM (mergeM s k) s d p o a b).1.1), (true, (edgesM (mergeM s k) s d p o a b).1.2.1), (true, (edgesM (mergeM s k) s d p o a b).1.2.2)), (edgesM (mergeM s k) s d p o a b).2)
    else ((o, a, b), [⟨p, 2⟩]) := by
  rw [mergeM]
  simp only [sameO_ne h1, sameO_ne h2, sameO_ne h3, ha, hb, Bool.or_self, Bool.not_true, Bool.false_eq_true, if_false]
def rowM (ns : List ByteArray) (g : ByteArray → OT) : Tr := ns.flatMap fun n => withE [] n (g n).1 (g n).2
theorem withE_app (t : Tr) (n : ByteArray) (b : Bool) (x : Tr) : withE t n b x = t ++ withE [] n b x := by
  unfold withE
  split <;> simp
theorem fold_row (F : ByteArray → T3 × List Cf) : ∀ (ns : List ByteArray) (acc : (Tr × Tr × Tr) × List Cf),
    ns.foldl (fun acc n => ((withE acc.1.1 n (F n).1.1.1 (F n).1.1.2, withE acc.1.2.1 n (F n).1.2.1.1 (F n).1.2.1.2, withE acc.1.2.2 n (F n).1.2.2.1 (F n).1.2.2.2), acc.2 ++ (F n).2)) acc =
      ((acc.1.1 ++ rowM ns (fun n => (F n).1.1), acc.1.2.1 ++ rowM ns (fun n => (F n).1.2.1), acc.1.2.2 ++ rowM ns (fun n => (F n).1.2.2)), acc.2 ++ ns.flatMap fun n => (F n).2)
  | [], acc => by simp [rowM]
  | n :: ns, acc => by
    rw [List.foldl_cons, fold_row F ns]
    simp only [rowM, List.flatMap_cons]
    rw [withE_app acc.1.1, withE_app acc.1.2.1, withE_app acc.1.2.2]
    simp only [List.append_assoc]
def edgeM (s : Sc) (k : Nat) (d : Int) (p : List ByteArray) (o a b : OT) (n : ByteArray) : T3 × List Cf := mergeM s k (toM s d n) (p ++ [n]) (kidO o n) (kidO a n) (kidO b n)
theorem edges_row (s : Sc) (k : Nat) (d : Int) (p : List ByteArray) (o a b : OT) :
    edgesM (mergeM s k) s d p o a b = ((rowM (namesOf [o.2, a.2, b.2]) (fun n => (edgeM s k d p o a b n).1.1), rowM (namesOf [o.2, a.2, b.2]) (fun n => (edgeM s k d p o a b n).1.2.1), rowM (namesOf [o.2, a.2, b.2]) (fun n => (edgeM s k d p o a b n).1.2.2)), (namesOf [o.2, a.2, b.2]).flatMap fun n => (edgeM s k d p o a b n).2) := by
  have h := fold_row (edgeM s k d p o a b) (namesOf [o.2, a.2, b.2]) (([], [], []), [])
  simp only [List.nil_append] at h
  exact h
theorem names_sorted (ts : List Tr) : (namesOf ts).Pairwise fun x y => tl x < tl y := by
  unfold namesOf
  rw [List.pairwise_map]
  simp only [tl_ba]
  exact ofL_sorted _
theorem mem_row {ns : List ByteArray} {g : ByteArray → OT} {z : Edge} : z ∈ rowM ns g ↔ z.f0 ∈ ns ∧ (g z.f0).1 = true ∧ z.f1 = (g z.f0).2 := by
  unfold rowM
  rw [List.mem_flatMap]
  constructor
  · rintro ⟨n, hn, hz⟩
    unfold withE at hz
    split at hz
    · rename_i hb
      rw [List.nil_append, List.mem_singleton] at hz
      subst hz
      exact ⟨hn, hb, rfl⟩
    · cases hz
  · rintro ⟨hn, hb, hx⟩
    refine ⟨z.f0, hn, ?_⟩
    unfold withE
    rw [if_pos hb, List.nil_append, List.mem_singleton, ← hx]
    cases z
    rfl
theorem row_sorted {g : ByteArray → OT} : ∀ {ns : List ByteArray}, (ns.Pairwise fun x y => tl x < tl y) → Sorted (rowM ns g)
  | [], _ => List.Pairwise.nil
  | n :: ns, h => by
    rw [List.pairwise_cons] at h
    show Sorted (withE [] n (g n).1 (g n).2 ++ rowM ns g)
    unfold Sorted
    rw [List.pairwise_append]
    refine ⟨?_, row_sorted h.2, fun x hx y hy => ?_⟩
    · unfold withE
      split <;> simp
    · have hxn : x.f0 = n := by
        unfold withE at hx
        split at hx
        · rw [List.nil_append, List.mem_singleton] at hx
          rw [hx]
        · cases hx
      rw [hxn]
      exact h.1 _ (mem_row.1 hy).1
theorem mem_names3 {o a b : Tr} (ho : Sorted o) (ha : Sorted a) (hb : Sorted b) {n : ByteArray} : n ∈ namesOf [o, a, b] ↔ (kid o n).isSome = true ∨ (kid a n).isSome = true ∨ (kid b n).isSome = true := by
  rw [mem_namesOf]
  simp only [List.mem_cons, List.not_mem_nil, or_false, exists_eq_or_imp, exists_eq_left, mem_nms ho, mem_nms ha, mem_nms hb]
end Go.Proofs.Ytainbaehfdhmbaa.PX
set_option linter.unusedVariables false
set_option linter.unusedSimpArgs false
namespace Go.Proofs.Ytainbaehfdhmbaa.PX
open Go.RowKit Go.Proofs.YtainbaehfdhmbaaW.PrintWords Go.Proofs.YtainbaehfdhmbaaW.PrintLast Go.Proofs.YtainbaehfdhmbaaW.PrintMore Go.Proofs.Ytainbaehfdhmbaa Go.Shelf
def Gr (w : World) (v v' : Value) : Prop := v'.ownBlock = v.ownBlock ∨ ∃ q, v'.ownBlock = some q ∧ w.heap.size ≤ q
theorem MSt.ms_lt {W : World} {gm base : Nat} {As : Option Addr} {n cs : Nat} {vl vp : Value} {l : List Cf} {p : List ByteArray} (h : MSt W gm base As n cs vl vp l p) {k : Nat} (hk : MS gm vl vp k) : k < W.heap.size := by
  rcases hk with rfl | hk | hk
  · exact h.lt
  · exact Kd.R_lt h.hl k hk.symm
  · exact Kd.R_lt h.hp k hk.symm
structure MIn (w : World) (gm base : Nat) (As : Option Addr) (cs : Nat) (s : Sc) (vl vp : Value) (l : List Cf) (p : List ByteArray) (o a b : OT) (vo va vb : Value) (Q : Nat → Prop) (wd D : Nat) : Prop where
  st : MSt w gm base As s.length cs vl vp l p
  bs : base ≤ w.heap.size
  ok : ScOk s
  sc : s.length ≤ cs
  sf : Kd.F k59 w Q As s.length s
  ho : Kd.V k51 51 w w.heap.size Q vo o.2
  ha : Kd.V k51 51 w w.heap.size Q va a.2
  hb : Kd.V k51 51 w w.heap.size Q vb b.2
  q : ∀ k, Q k → k < w.heap.size ∧ ¬ MS gm vl vp k
  oo : OOk wd D o
  oa : OOk wd D a
  ob : OOk wd D b
  hw : wd ≤ 1000
  nl : l.length + (3 * wd) ^ D ≤ 1000000000
  np : p.length + D ≤ 1000000000
def MPost (w : World) (gm base : Nat) (As : Option Addr) (cs : Nat) (s : Sc) (vl vp : Value) (l : List Cf) (p : List ByteArray) (Q : Nat → Prop) (r : T3 × List Cf) (e : Ending) (w' : World) : Prop :=
  ∃ vl' vp' uo ua ub, e = .returned (.agg #[.bool r.1.1.1, uo, .bool r.1.2.1.1, ua, .bool r.1.2.2.1, ub]) ∧ MSt w' gm base As s.length cs vl' vp' (l ++ r.2) p ∧ Below base w w' ∧ Kept w w' (MS gm vl vp) ∧ Gr w vl vl' ∧ Gr w vp vp' ∧
    Kd.V k51 51 w' w'.heap.size (fun k => (Q k ∨ w.heap.size ≤ k) ∧ k < w'.heap.size ∧ ¬ MS gm vl' vp' k) uo r.1.1.2 ∧
    Kd.V k51 51 w' w'.heap.size (fun k => (Q k ∨ w.heap.size ≤ k) ∧ k < w'.heap.size ∧ ¬ MS gm vl' vp' k) ua r.1.2.1.2 ∧
    Kd.V k51 51 w' w'.heap.size (fun k => (Q k ∨ w.heap.size ≤ k) ∧ k < w'.heap.size ∧ ¬ MS gm vl' vp' k) ub r.1.2.2.2
theorem V_base {α : Type} {d : Kd α} {e b b' : Nat} {W : World} {ok : Nat → Prop} {v : Value} {xs : List α} (h : Kd.V d e W b ok v xs) : Kd.V d e W b' ok v xs := by
  obtain ⟨A, c, h1, h2, h3⟩ := h
  exact ⟨A, c, h1, h2, h3⟩
abbrev put6 (W : World) (g : Nat) (v0 v1 v2 v3 v4 v5 : Value) : World := (((((W.setCell ⟨g, 0, none⟩ v0).setCell ⟨g, 1, none⟩ v1).setCell ⟨g, 2, none⟩ v2).setCell ⟨g, 3, none⟩ v3).setCell ⟨g, 4, none⟩ v4).setCell ⟨g, 5, none⟩ v5
section
variable {W w : World} {g t : Nat} {v0 v1 v2 v3 v4 v5 a0 a1 a2 a3 a4 a5 : Value}
theorem put6_blk (h : W.heap[g]? = some (.cells #[a0, a1, a2, a3, a4, a5] t (0, 0))) : (put6 W g v0 v1 v2 v3 v4 v5).heap[g]? = some (.cells #[v0, v1, v2, v3, v4, v5] t (0, 0)) :=
  blk_put (blk_put (blk_put (blk_put (blk_put (blk_put h 0 v0 rfl) 1 v1 rfl) 2 v2 rfl) 3 v3 rfl) 4 v4 rfl) 5 v5 rfl
theorem put6_V {α : Type} {d : Kd α} {e b : Nat} {ok : Nat → Prop} {v : Value} {xs : List α} (h : Kd.V d e W b ok v xs) (hok : ∀ k, ok k → k ≠ g) : Kd.V d e (put6 W g v0 v1 v2 v3 v4 v5) b ok v xs :=
  Kd.V_far (Kd.V_far (Kd.V_far (Kd.V_far (Kd.V_far (Kd.V_far h (p := ⟨g, 0, none⟩) hok _) (p := ⟨g, 1, none⟩) hok _) (p := ⟨g, 2, none⟩) hok _) (p := ⟨g, 3, none⟩) hok _) (p := ⟨g, 4, none⟩) hok _) (p := ⟨g, 5, none⟩) hok _
theorem put6_below {B : Nat} (h : Below B w W) (hg : B ≤ g) : Below B w (put6 W g v0 v1 v2 v3 v4 v5) :=
  (((((h.setCell hg _).setCell hg _).setCell hg _).setCell hg _).setCell hg _).setCell hg _
theorem put6_kept {S : Nat → Prop} (h : Kept w W S) (hg : S g ∨ w.heap.size ≤ g) : Kept w (put6 W g v0 v1 v2 v3 v4 v5) S :=
  (((((h.setCell (p := ⟨g, 0, none⟩) hg _).setCell (p := ⟨g, 1, none⟩) hg _).setCell (p := ⟨g, 2, none⟩) hg _).setCell (p := ⟨g, 3, none⟩) hg _).setCell (p := ⟨g, 4, none⟩) hg _).setCell (p := ⟨g, 5, none⟩) hg _
theorem MSt.set {gm base : Nat} {As : Option Addr} {n cs : Nat} {vl vp : Value} {l : List Cf} {p : List ByteArray} (h : MSt W gm base As n cs vl vp l p) {c : Array Value} (hb : W.heap[g]? = some (.cells c 65 (0, 0))) (i : Nat) (u : Value) : MSt (W.setCell ⟨g, i, none⟩ u) gm base As n cs vl vp l p :=
  ⟨blk_far h.blk (blk_ne h.blk hb (by decide)) _, Kd.R_mono (Kd.R_far (p := ⟨g, i, none⟩) (Kd.R_types h.hl hb (by decide)) (fun _ hk => hk.2) _) (fun _ hk => hk.1), Kd.R_mono (Kd.R_far (p := ⟨g, i, none⟩) (Kd.R_types h.hp hb (by decide)) (fun _ hk => hk.2) _) (fun _ _ => trivial), h.hb⟩
theorem MSt.put6 {gm base : Nat} {As : Option Addr} {n cs : Nat} {vl vp : Value} {l : List Cf} {p : List ByteArray} (h : MSt W gm base As n cs vl vp l p) (hb : W.heap[g]? = some (.cells #[a0, a1, a2, a3, a4, a5] 65 (0, 0))) : MSt (PX.put6 W g v0 v1 v2 v3 v4 v5) gm base As n cs vl vp l p :=
  have h0 := blk_put hb 0 v0 rfl
  have h1 := blk_put h0 1 v1 rfl
  have h2 := blk_put h1 2 v2 rfl
  have h3 := blk_put h2 3 v3 rfl
  have h4 := blk_put h3 4 v4 rfl
  ((((((h.set hb 0 v0).set h0 1 v1).set h1 2 v2).set h2 3 v3).set h3 4 v4).set h4 5 v5)
end
theorem all_c {wd D : Nat} (hW : wd ≤ 1000000) {x : OT} (hx : OOk wd D x) {A : Option Addr} {c : Nat} {Q : Nat → Prop} {bb : Nat} (W : World) (h : Kd.V k51 51 W bb Q (.slice A x.2.length c) x.2) :
    Calls Try.prog 28 #[.agg #[.bool x.1, .slice A x.2.length c]] W fun e w' => ∃ v1 v3 v5, e = .returned (.agg #[.bool x.1, v1, .bool x.1, v3, .bool x.1, v5]) ∧ Kd.V k51 51 w' W.heap.size (fun k => Q k ∨ W.heap.size ≤ k) v1 x.2 ∧ Kd.V k51 51 w' W.heap.size (fun k => Q k ∨ W.heap.size ≤ k) v3 x.2 ∧ Kd.V k51 51 w' W.heap.size (fun k => Q k ∨ W.heap.size ≤ k) v5 x.2 ∧ Below W.heap.size W w' := by
  obtain ⟨k, hk⟩ := (allO_ev hW hx).rounds
  refine (merge_all.calls k x.1 Q A c x.2 x.1 x.2 x.1 x.2 x.1 x.2 W h hk).mono ?_
  rintro e w' ⟨v1, v3, v5, rfl, h1, h3, h5, hb⟩
  exact ⟨v1, v3, v5, rfl, Kd.V_mono (Kd.N_V h1) (fun _ hk => hk.1), Kd.V_mono (Kd.N_V h3) (fun _ hk => hk.1), Kd.V_mono (Kd.N_V h5) (fun _ hk => hk.1), hb⟩
theorem stay_c {wd D : Nat} (hW : wd ≤ 1000000) {o a b : OT} (ho : OOk wd D o) (ha : OOk wd D a) (hb : OOk wd D b) {Ao Aa Ab : Option Addr} {co ca cb : Nat} {Q : Nat → Prop} {bb : Nat} (W : World) (h1 : Kd.V k51 51 W bb Q (.slice Ao o.2.length co) o.2) (h2 : Kd.V k51 51 W bb Q (.slice Aa a.2.length ca) a.2) (h3 : Kd.V k51 51 W bb Q (.slice Ab b.2.length cb) b.2) :
    Calls Try.prog 30 #[.agg #[.bool o.1, .slice Ao o.2.length co, .bool a.1, .slice Aa a.2.length ca, .bool b.1, .slice Ab b.2.length cb]] W fun e w' => ∃ v1 v3 v5, e = .returned (.agg #[.bool o.1, v1, .bool a.1, v3, .bool b.1, v5]) ∧ Kd.V k51 51 w' W.heap.size (fun k => Q k ∨ W.heap.size ≤ k) v1 o.2 ∧ Kd.V k51 51 w' W.heap.size (fun k => Q k ∨ W.heap.size ≤ k) v3 a.2 ∧ Kd.V k51 51 w' W.heap.size (fun k => Q k ∨ W.heap.size ≤ k) v5 b.2 ∧ Below W.heap.size W w' := by
  obtain ⟨k, hk⟩ := (stayO_ev hW ho ha hb).rounds
  refine (merge_stay.calls k o.1 Q Ao co o.2 a.1 Q Aa ca a.2 b.1 Q Ab cb b.2 o.1 o.2 a.1 a.2 b.1 b.2 W h1 h2 h3 hk).mono ?_
  rintro e w' ⟨v1, v3, v5, rfl, h1, h3, h5, hb⟩
  exact ⟨v1, v3, v5, rfl, Kd.V_mono (Kd.N_V h1) (fun _ hk => by rcases hk.1 with (h | h | h) | h <;> first | exact .inl h | exact .inr h), Kd.V_mono (Kd.N_V h3) (fun _ hk => by rcases hk.1 with (h | h | h) | h <;> first | exact .inl h | exact .inr h), Kd.V_mono (Kd.N_V h5) (fun _ hk => by rcases hk.1 with (h | h | h) | h <;> first | exact .inl h | exact .inr h), hb⟩
set_option maxHeartbeats 8000000 in
set_option maxRecDepth 100000 in
theorem merge_q1 {w : World} {gm base : Nat} {As : Option Addr} {cs : Nat} {s : Sc} {vl vp : Value} {l : List Cf} {p : List ByteArray} {o a b : OT} {vo va vb : Value} {Q : Nat → Prop} {wd D : Nat} (d : Int) (h : MIn w gm base As cs s vl vp l p o a b vo va vb Q wd D) (hc0 : sameO a b = true) :
    Calls Try.prog 21 #[.pointer (some ⟨gm, 0, none⟩), .int .i64 d, .agg #[.bool o.1, vo, .bool a.1, va, .bool b.1, vb]] w (MPost w gm base As cs s vl vp l p Q ((a, a, a), [])) := by
  obtain ⟨hst, hbs, hok, hsc, hsf, ho, ha, hb_, hq, hoo, hoa, hob, hwd, hnl, hnp⟩ := h
  obtain ⟨Ao, co, rfl⟩ := Kd.V_slice ho
  obtain ⟨Aa, ca, rfl⟩ := Kd.V_slice ha
  obtain ⟨Ab, cb, rfl⟩ := Kd.V_slice hb_
  have HAB : Aside0 (∀ W, Below w.heap.size w W → Calls Try.prog 27 #[.agg #[.bool a.1, .slice Aa a.2.length ca], .agg #[.bool b.1, .slice Ab b.2.length cb]] W fun e w' => e = .returned (.bool true) ∧ Below W.heap.size W w') := ⟨fun W hW => merge_same.calls a.1 Aa ca a.2 b.1 Ab cb b.2 true W (Kd.V_reads' (Kd.V_below ha hW)).2.2 (Kd.V_reads' ha).2.1 (Kd.V_reads' (Kd.V_below hb_ hW)).2.2 (Kd.V_reads' hb_).2.1 (by rw [same_f (W := wd) (by omega) hoa, hc0])⟩
  have HV := Aside0.mk ha
  have HX := hoa
  have ST := Aside0.mk hst
  have HQ := Aside0.mk hq
  clear ho ha hb_ hst hq hsf hc0 hnl hnp
  have hu := Try.underlying65
  have hu2 := Try.underlying26
  have hu3 := Try.underlying63
  have HB := Aside0.mk (Below.refl w.heap.size w)
  go_enter Try.func21, Try.ntmps21
  go_wp2_with (first
    | ((with_reducible refine gate_dst (N := 5) rfl ?_); refine box_event ?hg (N := 5) ?hd (cs := #[.bool o.1, .slice Ao o.2.length co, .bool a.1, .slice Aa a.2.length ca, .bool b.1, .slice Ab b.2.length cb]) (t := 65) ?hr ?_; (case hd => rfl); (case hg => rfl); (case hr => first | (go_simp; done) | (go_simp; rfl)); intro gb5 hg w5 hbox hb; have G_gb5 := Aside0.mk (show w.heap.size ≤ gb5 from by rw [hg]; exact HB.out.size); have NB := Aside0.mk (below_step HB.out hb); clear HB; have HB := NB; clear NB; have BK5 := Aside0.mk hbox; clear hbox hg hb)
    | ((with_reducible refine gate_dst (N := 6) rfl ?_); refine box_event ?hg (N := 6) ?hd (cs := #[.bool false, .slice none 0 0, .bool false, .slice none 0 0, .bool false, .slice none 0 0]) (t := 65) ?hr ?_; (case hd => rfl); (case hg => rfl); (case hr => first | (go_simp; done) | (go_simp; rfl)); intro gb6 hg w6 hbox hb; have N_BK5 := Aside0.mk (blk_below BK5.out hb); clear BK5; have BK5 := N_BK5; clear N_BK5; have G_gb6 := Aside0.mk (show w.heap.size ≤ gb6 from by rw [hg]; exact HB.out.size); have NB := Aside0.mk (below_step HB.out hb); clear HB; have HB := NB; clear NB; have BK6 := Aside0.mk hbox; clear hbox hg hb; have x0 : w6.cell? ⟨gb5, 0, none⟩ = some (.bool o.1) := (blk_cell BK5.out 0).trans rfl; have x1 : w6.cell? ⟨gb5, 1, none⟩ = some (.slice Ao o.2.length co) := (blk_cell BK5.out 1).trans rfl; have x2 : w6.cell? ⟨gb5, 2, none⟩ = some (.bool a.1) := (blk_cell BK5.out 2).trans rfl; have x3 : w6.cell? ⟨gb5, 3, none⟩ = some (.slice Aa a.2.length ca) := (blk_cell BK5.out 3).trans rfl; have x4 : w6.cell? ⟨gb5, 4, none⟩ = some (.bool b.1) := (blk_cell BK5.out 4).trans rfl; have x5 : w6.cell? ⟨gb5, 5, none⟩ = some (.slice Ab b.2.length cb) := (blk_cell BK5.out 5).trans rfl)
    | (go_at_call 27; (with_reducible refine (HAB.out _ HB.out).mono ?_); rintro e_ w7 ⟨rfl, hb⟩; clear x0 x1 x2 x3 x4 x5; have N5 := Aside0.mk (blk_below BK5.out hb); have N6 := Aside0.mk (blk_below BK6.out hb); have NB := Aside0.mk (below_step HB.out hb); clear HB BK5 BK6 hb; have HB := NB; have BK5 := N5; have BK6 := N6; clear NB N5 N6; have x0 : w7.cell? ⟨gb5, 0, none⟩ = some (.bool o.1) := (blk_cell BK5.out 0).trans rfl; have x1 : w7.cell? ⟨gb5, 1, none⟩ = some (.slice Ao o.2.length co) := (blk_cell BK5.out 1).trans rfl; have x2 : w7.cell? ⟨gb5, 2, none⟩ = some (.bool a.1) := (blk_cell BK5.out 2).trans rfl; have x3 : w7.cell? ⟨gb5, 3, none⟩ = some (.slice Aa a.2.length ca) := (blk_cell BK5.out 3).trans rfl; have x4 : w7.cell? ⟨gb5, 4, none⟩ = some (.bool b.1) := (blk_cell BK5.out 4).trans rfl; have x5 : w7.cell? ⟨gb5, 5, none⟩ = some (.slice Ab b.2.length cb) := (blk_cell BK5.out 5).trans rfl)
    | (go_at_call 28; refine (all_c (by omega) HX (x := a) _ (Kd.V_below HV.out HB.out)).mono ?_; rintro e_ w8 ⟨v1, v3, v5, rfl, hv1, hv3, hv5, hb⟩; clear x0 x1 x2 x3 x4 x5; obtain ⟨A1, c1, rfl⟩ := Kd.V_slice hv1; obtain ⟨A3, c3, rfl⟩ := Kd.V_slice hv3; obtain ⟨A5, c5, rfl⟩ := Kd.V_slice hv5; have L6 := Aside0.mk (blk_lt BK6.out); have SZ := Aside0.mk HB.out.size; have V1 := Aside0.mk hv1; have V3 := Aside0.mk hv3; have V5 := Aside0.mk hv5; have N6 := Aside0.mk (blk_below BK6.out hb); have NB := Aside0.mk (below_step HB.out hb); clear HB BK5 BK6 hb hv1 hv3 hv5; have HB := NB; have BK6 := N6; clear NB N6; have hs0 : w8.cell? ⟨gb6, 0, none⟩ = some (.bool false) := (blk_cell BK6.out 0).trans rfl; have hf0 := blk_frozen BK6.out 0; have hs1 : w8.cell? ⟨gb6, 1, none⟩ = some (.slice none 0 0) := (blk_cell BK6.out 1).trans rfl; have hf1 := blk_frozen BK6.out 1; have hs2 : w8.cell? ⟨gb6, 2, none⟩ = some (.bool false) := (blk_cell BK6.out 2).trans rfl; have hf2 := blk_frozen BK6.out 2; have hs3 : w8.cell? ⟨gb6, 3, none⟩ = some (.slice none 0 0) := (blk_cell BK6.out 3).trans rfl; have hf3 := blk_frozen BK6.out 3; have hs4 : w8.cell? ⟨gb6, 4, none⟩ = some (.bool false) := (blk_cell BK6.out 4).trans rfl; have hf4 := blk_frozen BK6.out 4; have hs5 : w8.cell? ⟨gb6, 5, none⟩ = some (.slice none 0 0) := (blk_cell BK6.out 5).trans rfl; have hf5 := blk_frozen BK6.out 5))
  refine bodyPost_ret (results_cell_row rfl _ _ gb6 65 #[.bool a.1, .slice A1 a.2.length c1, .bool a.1, .slice A3 a.2.length c3, .bool a.1, .slice A5 a.2.length c5] (0, 0) _ rfl (put6_blk BK6.out) Try.underlying65 rfl (by kernel_rfl)) rfl ?_
  have hne : ∀ n, gb6 < n → ∀ k, (Q k ∨ n ≤ k) → k ≠ gb6 := fun n hn k hk => by
    have h1 := G_gb6.out
    rcases hk with hk | hk
    · have := (HQ.out k hk).1
      omega
    · omega
  refine ⟨vl, vp, _, _, _, rfl, ?_, ?_, ?_, .inl rfl, .inl rfl, ?_, ?_, ?_⟩
  · rw [List.append_nil]
    exact (ST.out.below HB.out).put6 BK6.out
  · exact put6_below (Below.trans (Below.refl _ _) ⟨HB.out.os, HB.out.tape, HB.out.output, HB.out.size, fun i hi => HB.out.block i (Nat.lt_of_lt_of_le hi hbs)⟩) (Nat.le_trans hbs G_gb6.out)
  · exact put6_kept (Kept.of_below HB.out _) (.inr G_gb6.out)
  · refine V_base (Kd.V_mono (Kd.V_bound (put6_V V1.out (hne _ L6.out))) (fun k hk => ?_))
    have h1 := SZ.out
    refine ⟨hk.1.imp_right (fun h => Nat.le_trans h1 h), hk.2, fun hm => ?_⟩
    rcases hk.1 with h | h
    · exact (HQ.out k h).2 hm
    · have := ST.out.ms_lt hm
      omega
  · refine V_base (Kd.V_mono (Kd.V_bound (put6_V V3.out (hne _ L6.out))) (fun k hk => ?_))
    have h1 := SZ.out
    refine ⟨hk.1.imp_right (fun h => Nat.le_trans h1 h), hk.2, fun hm => ?_⟩
    rcases hk.1 with h | h
    · exact (HQ.out k h).2 hm
    · have := ST.out.ms_lt hm
      omega
  · refine V_base (Kd.V_mono (Kd.V_bound (put6_V V5.out (hne _ L6.out))) (fun k hk => ?_))
    have h1 := SZ.out
    refine ⟨hk.1.imp_right (fun h => Nat.le_trans h1 h), hk.2, fun hm => ?_⟩
    rcases hk.1 with h | h
    · exact (HQ.out k h).2 hm
    · have := ST.out.ms_lt hm
      omega
set_option maxHeartbeats 8000000 in
set_option maxRecDepth 100000 in
theorem merge_q2 {w : World} {gm base : Nat} {As : Option Addr} {cs : Nat} {s : Sc} {vl vp : Value} {l : List Cf} {p : List ByteArray} {o a b : OT} {vo va vb : Value} {Q : Nat → Prop} {wd D : Nat} (d : Int) (h : MIn w gm base As cs s vl vp l p o a b vo va vb Q wd D) (hc0 : sameO a b = false) (hc1 : sameO b o = true) :
    Calls Try.prog 21 #[.pointer (some ⟨gm, 0, none⟩), .int .i64 d, .agg #[.bool o.1, vo, .bool a.1, va, .bool b.1, vb]] w (MPost w gm base As cs s vl vp l p Q ((a, a, a), [])) := by
  obtain ⟨hst, hbs, hok, hsc, hsf, ho, ha, hb_, hq, hoo, hoa, hob, hwd, hnl, hnp⟩ := h
  obtain ⟨Ao, co, rfl⟩ := Kd.V_slice ho
  obtain ⟨Aa, ca, rfl⟩ := Kd.V_slice ha
  obtain ⟨Ab, cb, rfl⟩ := Kd.V_slice hb_
  have HAB : Aside0 (∀ W, Below w.heap.size w W → Calls Try.prog 27 #[.agg #[.bool a.1, .slice Aa a.2.length ca], .agg #[.bool b.1, .slice Ab b.2.length cb]] W fun e w' => e = .returned (.bool false) ∧ Below W.heap.size W w') := ⟨fun W hW => merge_same.calls a.1 Aa ca a.2 b.1 Ab cb b.2 false W (Kd.V_reads' (Kd.V_below ha hW)).2.2 (Kd.V_reads' ha).2.1 (Kd.V_reads' (Kd.V_below hb_ hW)).2.2 (Kd.V_reads' hb_).2.1 (by rw [same_f (W := wd) (by omega) hoa, hc0])⟩
  have HBO : Aside0 (∀ W, Below w.heap.size w W → Calls Try.prog 27 #[.agg #[.bool b.1, .slice Ab b.2.length cb], .agg #[.bool o.1, .slice Ao o.2.length co]] W fun e w' => e = .returned (.bool true) ∧ Below W.heap.size W w') := ⟨fun W hW => merge_same.calls b.1 Ab cb b.2 o.1 Ao co o.2 true W (Kd.V_reads' (Kd.V_below hb_ hW)).2.2 (Kd.V_reads' hb_).2.1 (Kd.V_reads' (Kd.V_below ho hW)).2.2 (Kd.V_reads' ho).2.1 (by rw [same_f (W := wd) (by omega) hob, hc1])⟩
  have HV := Aside0.mk ha
  have HX := hoa
  have ST := Aside0.mk hst
  have HQ := Aside0.mk hq
  clear ho ha hb_ hst hq hsf hc0 hc1 hnl hnp
  have hu := Try.underlying65
  have hu2 := Try.underlying26
  have hu3 := Try.underlying63
  have HB := Aside0.mk (Below.refl w.heap.size w)
  go_enter Try.func21, Try.ntmps21
  go_wp2_with (first
    | ((with_reducible refine gate_dst (N := 5) rfl ?_); refine box_event ?hg (N := 5) ?hd (cs := #[.bool o.1, .slice Ao o.2.length co, .bool a.1, .slice Aa a.2.length ca, .bool b.1, .slice Ab b.2.length cb]) (t := 65) ?hr ?_; (case hd => rfl); (case hg => rfl); (case hr => first | (go_simp; done) | (go_simp; rfl)); intro gb5 hg w5 hbox hb; have G_gb5 := Aside0.mk (show w.heap.size ≤ gb5 from by rw [hg]; exact HB.out.size); have NB := Aside0.mk (below_step HB.out hb); clear HB; have HB := NB; clear NB; have BK5 := Aside0.mk hbox; clear hbox hg hb)
    | ((with_reducible refine gate_dst (N := 6) rfl ?_); refine box_event ?hg (N := 6) ?hd (cs := #[.bool false, .slice none 0 0, .bool false, .slice none 0 0, .bool false, .slice none 0 0]) (t := 65) ?hr ?_; (case hd => rfl); (case hg => rfl); (case hr => first | (go_simp; done) | (go_simp; rfl)); intro gb6 hg w6 hbox hb; have N_BK5 := Aside0.mk (blk_below BK5.out hb); clear BK5; have BK5 := N_BK5; clear N_BK5; have G_gb6 := Aside0.mk (show w.heap.size ≤ gb6 from by rw [hg]; exact HB.out.size); have NB := Aside0.mk (below_step HB.out hb); clear HB; have HB := NB; clear NB; have BK6 := Aside0.mk hbox; clear hbox hg hb; have x0 : w6.cell? ⟨gb5, 0, none⟩ = some (.bool o.1) := (blk_cell BK5.out 0).trans rfl; have x1 : w6.cell? ⟨gb5, 1, none⟩ = some (.slice Ao o.2.length co) := (blk_cell BK5.out 1).trans rfl; have x2 : w6.cell? ⟨gb5, 2, none⟩ = some (.bool a.1) := (blk_cell BK5.out 2).trans rfl; have x3 : w6.cell? ⟨gb5, 3, none⟩ = some (.slice Aa a.2.length ca) := (blk_cell BK5.out 3).trans rfl; have x4 : w6.cell? ⟨gb5, 4, none⟩ = some (.bool b.1) := (blk_cell BK5.out 4).trans rfl; have x5 : w6.cell? ⟨gb5, 5, none⟩ = some (.slice Ab b.2.length cb) := (blk_cell BK5.out 5).trans rfl)
    | (go_at_call 27; (with_reducible refine (HAB.out _ HB.out).mono ?_); rintro e_ w7 ⟨rfl, hb⟩; clear x0 x1 x2 x3 x4 x5; have N5 := Aside0.mk (blk_below BK5.out hb); have N6 := Aside0.mk (blk_below BK6.out hb); have NB := Aside0.mk (below_step HB.out hb); clear HB BK5 BK6 hb; have HB := NB; have BK5 := N5; have BK6 := N6; clear NB N5 N6; have x0 : w7.cell? ⟨gb5, 0, none⟩ = some (.bool o.1) := (blk_cell BK5.out 0).trans rfl; have x1 : w7.cell? ⟨gb5, 1, none⟩ = some (.slice Ao o.2.length co) := (blk_cell BK5.out 1).trans rfl; have x2 : w7.cell? ⟨gb5, 2, none⟩ = some (.bool a.1) := (blk_cell BK5.out 2).trans rfl; have x3 : w7.cell? ⟨gb5, 3, none⟩ = some (.slice Aa a.2.length ca) := (blk_cell BK5.out 3).trans rfl; have x4 : w7.cell? ⟨gb5, 4, none⟩ = some (.bool b.1) := (blk_cell BK5.out 4).trans rfl; have x5 : w7.cell? ⟨gb5, 5, none⟩ = some (.slice Ab b.2.length cb) := (blk_cell BK5.out 5).trans rfl)
    | (go_at_call 27; (with_reducible refine (HBO.out _ HB.out).mono ?_); rintro e_ w8 ⟨rfl, hb⟩; clear x0 x1 x2 x3 x4 x5; have N5 := Aside0.mk (blk_below BK5.out hb); have N6 := Aside0.mk (blk_below BK6.out hb); have NB := Aside0.mk (below_step HB.out hb); clear HB BK5 BK6 hb; have HB := NB; have BK5 := N5; have BK6 := N6; clear NB N5 N6; have x0 : w8.cell? ⟨gb5, 0, none⟩ = some (.bool o.1) := (blk_cell BK5.out 0).trans rfl; have x1 : w8.cell? ⟨gb5, 1, none⟩ = some (.slice Ao o.2.length co) := (blk_cell BK5.out 1).trans rfl; have x2 : w8.cell? ⟨gb5, 2, none⟩ = some (.bool a.1) := (blk_cell BK5.out 2).trans rfl; have x3 : w8.cell? ⟨gb5, 3, none⟩ = some (.slice Aa a.2.length ca) := (blk_cell BK5.out 3).trans rfl; have x4 : w8.cell? ⟨gb5, 4, none⟩ = some (.bool b.1) := (blk_cell BK5.out 4).trans rfl; have x5 : w8.cell? ⟨gb5, 5, none⟩ = some (.slice Ab b.2.length cb) := (blk_cell BK5.out 5).trans rfl)
    | (go_at_call 28; refine (all_c (by omega) HX (x := a) _ (Kd.V_below HV.out HB.out)).mono ?_; rintro e_ w9 ⟨v1, v3, v5, rfl, hv1, hv3, hv5, hb⟩; clear x0 x1 x2 x3 x4 x5; obtain ⟨A1, c1, rfl⟩ := Kd.V_slice hv1; obtain ⟨A3, c3, rfl⟩ := Kd.V_slice hv3; obtain ⟨A5, c5, rfl⟩ := Kd.V_slice hv5; have L6 := Aside0.mk (blk_lt BK6.out); have SZ := Aside0.mk HB.out.size; have V1 := Aside0.mk hv1; have V3 := Aside0.mk hv3; have V5 := Aside0.mk hv5; have N6 := Aside0.mk (blk_below BK6.out hb); have NB := Aside0.mk (below_step HB.out hb); clear HB BK5 BK6 hb hv1 hv3 hv5; have HB := NB; have BK6 := N6; clear NB N6; have hs0 : w9.cell? ⟨gb6, 0, none⟩ = some (.bool false) := (blk_cell BK6.out 0).trans rfl; have hf0 := blk_frozen BK6.out 0; have hs1 : w9.cell? ⟨gb6, 1, none⟩ = some (.slice none 0 0) := (blk_cell BK6.out 1).trans rfl; have hf1 := blk_frozen BK6.out 1; have hs2 : w9.cell? ⟨gb6, 2, none⟩ = some (.bool false) := (blk_cell BK6.out 2).trans rfl; have hf2 := blk_frozen BK6.out 2; have hs3 : w9.cell? ⟨gb6, 3, none⟩ = some (.slice none 0 0) := (blk_cell BK6.out 3).trans rfl; have hf3 := blk_frozen BK6.out 3; have hs4 : w9.cell? ⟨gb6, 4, none⟩ = some (.bool false) := (blk_cell BK6.out 4).trans rfl; have hf4 := blk_frozen BK6.out 4; have hs5 : w9.cell? ⟨gb6, 5, none⟩ = some (.slice none 0 0) := (blk_cell BK6.out 5).trans rfl; have hf5 := blk_frozen BK6.out 5))
  refine bodyPost_ret (results_cell_row rfl _ _ gb6 65 #[.bool a.1, .slice A1 a.2.length c1, .bool a.1, .slice A3 a.2.length c3, .bool a.1, .slice A5 a.2.length c5] (0, 0) _ rfl (put6_blk BK6.out) Try.underlying65 rfl (by kernel_rfl)) rfl ?_
  have hne : ∀ n, gb6 < n → ∀ k, (Q k ∨ n ≤ k) → k ≠ gb6 := fun n hn k hk => by
    have h1 := G_gb6.out
    rcases hk with hk | hk
    · have := (HQ.out k hk).1
      omega
    · omega
  refine ⟨vl, vp, _, _, _, rfl, ?_, ?_, ?_, .inl rfl, .inl rfl, ?_, ?_, ?_⟩
  · rw [List.append_nil]
    exact (ST.out.below HB.out).put6 BK6.out
  · exact put6_below (Below.trans (Below.refl _ _) ⟨HB.out.os, HB.out.tape, HB.out.output, HB.out.size, fun i hi => HB.out.block i (Nat.lt_of_lt_of_le hi hbs)⟩) (Nat.le_trans hbs G_gb6.out)
  · exact put6_kept (Kept.of_below HB.out _) (.inr G_gb6.out)
  · refine V_base (Kd.V_mono (Kd.V_bound (put6_V V1.out (hne _ L6.out))) (fun k hk => ?_))
    have h1 := SZ.out
    refine ⟨hk.1.imp_right (fun h => Nat.le_trans h1 h), hk.2, fun hm => ?_⟩
    rcases hk.1 with h | h
    · exact (HQ.out k h).2 hm
    · have := ST.out.ms_lt hm
      omega
  · refine V_base (Kd.V_mono (Kd.V_bound (put6_V V3.out (hne _ L6.out))) (fun k hk => ?_))
    have h1 := SZ.out
    refine ⟨hk.1.imp_right (fun h => Nat.le_trans h1 h), hk.2, fun hm => ?_⟩
    rcases hk.1 with h | h
    · exact (HQ.out k h).2 hm
    · have := ST.out.ms_lt hm
      omega
  · refine V_base (Kd.V_mono (Kd.V_bound (put6_V V5.out (hne _ L6.out))) (fun k hk => ?_))
    have h1 := SZ.out
    refine ⟨hk.1.imp_right (fun h => Nat.le_trans h1 h), hk.2, fun hm => ?_⟩
    rcases hk.1 with h | h
    · exact (HQ.out k h).2 hm
    · have := ST.out.ms_lt hm
      omega
set_option maxHeartbeats 8000000 in
set_option maxRecDepth 100000 in
theorem merge_q3 {w : World} {gm base : Nat} {As : Option Addr} {cs : Nat} {s : Sc} {vl vp : Value} {l : List Cf} {p : List ByteArray} {o a b : OT} {vo va vb : Value} {Q : Nat → Prop} {wd D : Nat} (d : Int) (h : MIn w gm base As cs s vl vp l p o a b vo va vb Q wd D) (hc0 : sameO a b = false) (hc1 : sameO b o = false) (hc2 : sameO a o = true) :
    Calls Try.prog 21 #[.pointer (some ⟨gm, 0, none⟩), .int .i64 d, .agg #[.bool o.1, vo, .bool a.1, va, .bool b.1, vb]] w (MPost w gm base As cs s vl vp l p Q ((b, b, b), [])) := by
  obtain ⟨hst, hbs, hok, hsc, hsf, ho, ha, hb_, hq, hoo, hoa, hob, hwd, hnl, hnp⟩ := h
  obtain ⟨Ao, co, rfl⟩ := Kd.V_slice ho
  obtain ⟨Aa, ca, rfl⟩ := Kd.V_slice ha
  obtain ⟨Ab, cb, rfl⟩ := Kd.V_slice hb_
  have HAB : Aside0 (∀ W, Below w.heap.size w W → Calls Try.prog 27 #[.agg #[.bool a.1, .slice Aa a.2.length ca], .agg #[.bool b.1, .slice Ab b.2.length cb]] W fun e w' => e = .returned (.bool false) ∧ Below W.heap.size W w') := ⟨fun W hW => merge_same.calls a.1 Aa ca a.2 b.1 Ab cb b.2 false W (Kd.V_reads' (Kd.V_below ha hW)).2.2 (Kd.V_reads' ha).2.1 (Kd.V_reads' (Kd.V_below hb_ hW)).2.2 (Kd.V_reads' hb_).2.1 (by rw [same_f (W := wd) (by omega) hoa, hc0])⟩
  have HBO : Aside0 (∀ W, Below w.heap.size w W → Calls Try.prog 27 #[.agg #[.bool b.1, .slice Ab b.2.length cb], .agg #[.bool o.1, .slice Ao o.2.length co]] W fun e w' => e = .returned (.bool false) ∧ Below W.heap.size W w') := ⟨fun W hW => merge_same.calls b.1 Ab cb b.2 o.1 Ao co o.2 false W (Kd.V_reads' (Kd.V_below hb_ hW)).2.2 (Kd.V_reads' hb_).2.1 (Kd.V_reads' (Kd.V_below ho hW)).2.2 (Kd.V_reads' ho).2.1 (by rw [same_f (W := wd) (by omega) hob, hc1])⟩
  have HAO : Aside0 (∀ W, Below w.heap.size w W → Calls Try.prog 27 #[.agg #[.bool a.1, .slice Aa a.2.length ca], .agg #[.bool o.1, .slice Ao o.2.length co]] W fun e w' => e = .returned (.bool true) ∧ Below W.heap.size W w') := ⟨fun W hW => merge_same.calls a.1 Aa ca a.2 o.1 Ao co o.2 true W (Kd.V_reads' (Kd.V_below ha hW)).2.2 (Kd.V_reads' ha).2.1 (Kd.V_reads' (Kd.V_below ho hW)).2.2 (Kd.V_reads' ho).2.1 (by rw [same_f (W := wd) (by omega) hoa, hc2])⟩
  have HV := Aside0.mk hb_
  have HX := hob
  have ST := Aside0.mk hst
  have HQ := Aside0.mk hq
  clear ho ha hb_ hst hq hsf hc0 hc1 hc2 hnl hnp
  have hu := Try.underlying65
  have hu2 := Try.underlying26
  have hu3 := Try.underlying63
  have HB := Aside0.mk (Below.refl w.heap.size w)
  go_enter Try.func21, Try.ntmps21
  go_wp2_with (first
    | ((with_reducible refine gate_dst (N := 5) rfl ?_); refine box_event ?hg (N := 5) ?hd (cs := #[.bool o.1, .slice Ao o.2.length co, .bool a.1, .slice Aa a.2.length ca, .bool b.1, .slice Ab b.2.length cb]) (t := 65) ?hr ?_; (case hd => rfl); (case hg => rfl); (case hr => first | (go_simp; done) | (go_simp; rfl)); intro gb5 hg w5 hbox hb; have G_gb5 := Aside0.mk (show w.heap.size ≤ gb5 from by rw [hg]; exact HB.out.size); have NB := Aside0.mk (below_step HB.out hb); clear HB; have HB := NB; clear NB; have BK5 := Aside0.mk hbox; clear hbox hg hb)
    | ((with_reducible refine gate_dst (N := 6) rfl ?_); refine box_event ?hg (N := 6) ?hd (cs := #[.bool false, .slice none 0 0, .bool false, .slice none 0 0, .bool false, .slice none 0 0]) (t := 65) ?hr ?_; (case hd => rfl); (case hg => rfl); (case hr => first | (go_simp; done) | (go_simp; rfl)); intro gb6 hg w6 hbox hb; have N_BK5 := Aside0.mk (blk_below BK5.out hb); clear BK5; have BK5 := N_BK5; clear N_BK5; have G_gb6 := Aside0.mk (show w.heap.size ≤ gb6 from by rw [hg]; exact HB.out.size); have NB := Aside0.mk (below_step HB.out hb); clear HB; have HB := NB; clear NB; have BK6 := Aside0.mk hbox; clear hbox hg hb; have x0 : w6.cell? ⟨gb5, 0, none⟩ = some (.bool o.1) := (blk_cell BK5.out 0).trans rfl; have x1 : w6.cell? ⟨gb5, 1, none⟩ = some (.slice Ao o.2.length co) := (blk_cell BK5.out 1).trans rfl; have x2 : w6.cell? ⟨gb5, 2, none⟩ = some (.bool a.1) := (blk_cell BK5.out 2).trans rfl; have x3 : w6.cell? ⟨gb5, 3, none⟩ = some (.slice Aa a.2.length ca) := (blk_cell BK5.out 3).trans rfl; have x4 : w6.cell? ⟨gb5, 4, none⟩ = some (.bool b.1) := (blk_cell BK5.out 4).trans rfl; have x5 : w6.cell? ⟨gb5, 5, none⟩ = some (.slice Ab b.2.length cb) := (blk_cell BK5.out 5).trans rfl)
    | (go_at_call 27; (with_reducible refine (HAB.out _ HB.out).mono ?_); rintro e_ w7 ⟨rfl, hb⟩; clear x0 x1 x2 x3 x4 x5; have N5 := Aside0.mk (blk_below BK5.out hb); have N6 := Aside0.mk (blk_below BK6.out hb); have NB := Aside0.mk (below_step HB.out hb); clear HB BK5 BK6 hb; have HB := NB; have BK5 := N5; have BK6 := N6; clear NB N5 N6; have x0 : w7.cell? ⟨gb5, 0, none⟩ = some (.bool o.1) := (blk_cell BK5.out 0).trans rfl; have x1 : w7.cell? ⟨gb5, 1, none⟩ = some (.slice Ao o.2.length co) := (blk_cell BK5.out 1).trans rfl; have x2 : w7.cell? ⟨gb5, 2, none⟩ = some (.bool a.1) := (blk_cell BK5.out 2).trans rfl; have x3 : w7.cell? ⟨gb5, 3, none⟩ = some (.slice Aa a.2.length ca) := (blk_cell BK5.out 3).trans rfl; have x4 : w7.cell? ⟨gb5, 4, none⟩ = some (.bool b.1) := (blk_cell BK5.out 4).trans rfl; have x5 : w7.cell? ⟨gb5, 5, none⟩ = some (.slice Ab b.2.length cb) := (blk_cell BK5.out 5).trans rfl)
    | (go_at_call 27; (with_reducible refine (HBO.out _ HB.out).mono ?_); rintro e_ w8 ⟨rfl, hb⟩; clear x0 x1 x2 x3 x4 x5; have N5 := Aside0.mk (blk_below BK5.out hb); have N6 := Aside0.mk (blk_below BK6.out hb); have NB := Aside0.mk (below_step HB.out hb); clear HB BK5 BK6 hb; have HB := NB; have BK5 := N5; have BK6 := N6; clear NB N5 N6; have x0 : w8.cell? ⟨gb5, 0, none⟩ = some (.bool o.1) := (blk_cell BK5.out 0).trans rfl; have x1 : w8.cell? ⟨gb5, 1, none⟩ = some (.slice Ao o.2.length co) := (blk_cell BK5.out 1).trans rfl; have x2 : w8.cell? ⟨gb5, 2, none⟩ = some (.bool a.1) := (blk_cell BK5.out 2).trans rfl; have x3 : w8.cell? ⟨gb5, 3, none⟩ = some (.slice Aa a.2.length ca) := (blk_cell BK5.out 3).trans rfl; have x4 : w8.cell? ⟨gb5, 4, none⟩ = some (.bool b.1) := (blk_cell BK5.out 4).trans rfl; have x5 : w8.cell? ⟨gb5, 5, none⟩ = some (.slice Ab b.2.length cb) := (blk_cell BK5.out 5).trans rfl)
    | (go_at_call 27; (with_reducible refine (HAO.out _ HB.out).mono ?_); rintro e_ w9 ⟨rfl, hb⟩; clear x0 x1 x2 x3 x4 x5; have N5 := Aside0.mk (blk_below BK5.out hb); have N6 := Aside0.mk (blk_below BK6.out hb); have NB := Aside0.mk (below_step HB.out hb); clear HB BK5 BK6 hb; have HB := NB; have BK5 := N5; have BK6 := N6; clear NB N5 N6; have x0 : w9.cell? ⟨gb5, 0, none⟩ = some (.bool o.1) := (blk_cell BK5.out 0).trans rfl; have x1 : w9.cell? ⟨gb5, 1, none⟩ = some (.slice Ao o.2.length co) := (blk_cell BK5.out 1).trans rfl; have x2 : w9.cell? ⟨gb5, 2, none⟩ = some (.bool a.1) := (blk_cell BK5.out 2).trans rfl; have x3 : w9.cell? ⟨gb5, 3, none⟩ = some (.slice Aa a.2.length ca) := (blk_cell BK5.out 3).trans rfl; have x4 : w9.cell? ⟨gb5, 4, none⟩ = some (.bool b.1) := (blk_cell BK5.out 4).trans rfl; have x5 : w9.cell? ⟨gb5, 5, none⟩ = some (.slice Ab b.2.length cb) := (blk_cell BK5.out 5).trans rfl)
    | (go_at_call 28; refine (all_c (by omega) HX (x := b) _ (Kd.V_below HV.out HB.out)).mono ?_; rintro e_ w10 ⟨v1, v3, v5, rfl, hv1, hv3, hv5, hb⟩; clear x0 x1 x2 x3 x4 x5; obtain ⟨A1, c1, rfl⟩ := Kd.V_slice hv1; obtain ⟨A3, c3, rfl⟩ := Kd.V_slice hv3; obtain ⟨A5, c5, rfl⟩ := Kd.V_slice hv5; have L6 := Aside0.mk (blk_lt BK6.out); have SZ := Aside0.mk HB.out.size; have V1 := Aside0.mk hv1; have V3 := Aside0.mk hv3; have V5 := Aside0.mk hv5; have N6 := Aside0.mk (blk_below BK6.out hb); have NB := Aside0.mk (below_step HB.out hb); clear HB BK5 BK6 hb hv1 hv3 hv5; have HB := NB; have BK6 := N6; clear NB N6; have hs0 : w10.cell? ⟨gb6, 0, none⟩ = some (.bool false) := (blk_cell BK6.out 0).trans rfl; have hf0 := blk_frozen BK6.out 0; have hs1 : w10.cell? ⟨gb6, 1, none⟩ = some (.slice none 0 0) := (blk_cell BK6.out 1).trans rfl; have hf1 := blk_frozen BK6.out 1; have hs2 : w10.cell? ⟨gb6, 2, none⟩ = some (.bool false) := (blk_cell BK6.out 2).trans rfl; have hf2 := blk_frozen BK6.out 2; have hs3 : w10.cell? ⟨gb6, 3, none⟩ = some (.slice none 0 0) := (blk_cell BK6.out 3).trans rfl; have hf3 := blk_frozen BK6.out 3; have hs4 : w10.cell? ⟨gb6, 4, none⟩ = some (.bool false) := (blk_cell BK6.out 4).trans rfl; have hf4 := blk_frozen BK6.out 4; have hs5 : w10.cell? ⟨gb6, 5, none⟩ = some (.slice none 0 0) := (blk_cell BK6.out 5).trans rfl; have hf5 := blk_frozen BK6.out 5))
  refine bodyPost_ret (results_cell_row rfl _ _ gb6 65 #[.bool b.1, .slice A1 b.2.length c1, .bool b.1, .slice A3 b.2.length c3, .bool b.1, .slice A5 b.2.length c5] (0, 0) _ rfl (put6_blk BK6.out) Try.underlying65 rfl (by kernel_rfl)) rfl ?_
  have hne : ∀ n, gb6 < n → ∀ k, (Q k ∨ n ≤ k) → k ≠ gb6 := fun n hn k hk => by
    have h1 := G_gb6.out
    rcases hk with hk | hk
    · have := (HQ.out k hk).1
      omega
    · omega
  refine ⟨vl, vp, _, _, _, rfl, ?_, ?_, ?_, .inl rfl, .inl rfl, ?_, ?_, ?_⟩
  · rw [List.append_nil]
    exact (ST.out.below HB.out).put6 BK6.out
  · exact put6_below (Below.trans (Below.refl _ _) ⟨HB.out.os, HB.out.tape, HB.out.output, HB.out.size, fun i hi => HB.out.block i (Nat.lt_of_lt_of_le hi hbs)⟩) (Nat.le_trans hbs G_gb6.out)
  · exact put6_kept (Kept.of_below HB.out _) (.inr G_gb6.out)
  · refine V_base (Kd.V_mono (Kd.V_bound (put6_V V1.out (hne _ L6.out))) (fun k hk => ?_))
    have h1 := SZ.out
    refine ⟨hk.1.imp_right (fun h => Nat.le_trans h1 h), hk.2, fun hm => ?_⟩
    rcases hk.1 with h | h
    · exact (HQ.out k h).2 hm
    · have := ST.out.ms_lt hm
      omega
  · refine V_base (Kd.V_mono (Kd.V_bound (put6_V V3.out (hne _ L6.out))) (fun k hk => ?_))
    have h1 := SZ.out
    refine ⟨hk.1.imp_right (fun h => Nat.le_trans h1 h), hk.2, fun hm => ?_⟩
    rcases hk.1 with h | h
    · exact (HQ.out k h).2 hm
    · have := ST.out.ms_lt hm
      omega
  · refine V_base (Kd.V_mono (Kd.V_bound (put6_V V5.out (hne _ L6.out))) (fun k hk => ?_))
    have h1 := SZ.out
    refine ⟨hk.1.imp_right (fun h => Nat.le_trans h1 h), hk.2, fun hm => ?_⟩
    rcases hk.1 with h | h
    · exact (HQ.out k h).2 hm
    · have := ST.out.ms_lt hm
      omega
end Go.Proofs.Ytainbaehfdhmbaa.PX
set_option linter.unusedVariables false
set_option linter.unusedSimpArgs false
namespace Go.Proofs.Ytainbaehfdhmbaa.PX
open Go.RowKit Go.Proofs.YtainbaehfdhmbaaW.PrintWords Go.Proofs.YtainbaehfdhmbaaW.PrintLast Go.Proofs.YtainbaehfdhmbaaW.PrintMore Go.Proofs.Ytainbaehfdhmbaa Go.Shelf
set_option maxHeartbeats 8000000 in
set_option maxRecDepth 100000 in
theorem merge_q4 {w : World} {gm base : Nat} {As : Option Addr} {cs : Nat} {s : Sc} {vl vp : Value} {l : List Cf} {p : List ByteArray} {o : OT} {a : Tr} {b : OT} {vo va vb : Value} {Q : Nat → Prop} {wd D : Nat} (d : Int) (h : MIn w gm base As cs s vl vp l p o ((false, a) : OT) b vo va vb Q wd D) (hc0 : sameO ((false, a) : OT) b = false) (hc1 : sameO b o = false) (hc2 : sameO ((false, a) : OT) o = false) :
    Calls Try.prog 21 #[.pointer (some ⟨gm, 0, none⟩), .int .i64 d, .agg #[.bool o.1, vo, .bool false, va, .bool b.1, vb]] w (MPost w gm base As cs s vl vp l p Q ((o, ((false, a) : OT), b), [⟨p, 1⟩])) := by
  obtain ⟨hst, hbs, hok, hsc, hsf, ho, ha, hb_, hq, hoo, hoa, hob, hwd, hnl, hnp⟩ := h
  obtain ⟨Ao, co, rfl⟩ := Kd.V_slice ho
  obtain ⟨Aa, ca, rfl⟩ := Kd.V_slice ha
  obtain ⟨Ab, cb, rfl⟩ := Kd.V_slice hb_
  have HAB : Aside0 (∀ W, Below w.heap.size w W → Calls Try.prog 27 #[.agg #[.bool false, .slice Aa a.length ca], .agg #[.bool b.1, .slice Ab b.2.length cb]] W fun e w' => e = .returned (.bool false) ∧ Below W.heap.size W w') := ⟨fun W hW => merge_same.calls false Aa ca a b.1 Ab cb b.2 false W (Kd.V_reads' (Kd.V_below ha hW)).2.2 (Kd.V_reads' ha).2.1 (Kd.V_reads' (Kd.V_below hb_ hW)).2.2 (Kd.V_reads' hb_).2.1 ((same_f (W := wd) (by omega) hoa).trans (congrArg some hc0))⟩
  have HBO : Aside0 (∀ W, Below w.heap.size w W → Calls Try.prog 27 #[.agg #[.bool b.1, .slice Ab b.2.length cb], .agg #[.bool o.1, .slice Ao o.2.length co]] W fun e w' => e = .returned (.bool false) ∧ Below W.heap.size W w') := ⟨fun W hW => merge_same.calls b.1 Ab cb b.2 o.1 Ao co o.2 false W (Kd.V_reads' (Kd.V_below hb_ hW)).2.2 (Kd.V_reads' hb_).2.1 (Kd.V_reads' (Kd.V_below ho hW)).2.2 (Kd.V_reads' ho).2.1 ((same_f (W := wd) (by omega) hob).trans (congrArg some hc1))⟩
  have HAO : Aside0 (∀ W, Below w.heap.size w W → Calls Try.prog 27 #[.agg #[.bool false, .slice Aa a.length ca], .agg #[.bool o.1, .slice Ao o.2.length co]] W fun e w' => e = .returned (.bool false) ∧ Below W.heap.size W w') := ⟨fun W hW => merge_same.calls false Aa ca a o.1 Ao co o.2 false W (Kd.V_reads' (Kd.V_below ha hW)).2.2 (Kd.V_reads' ha).2.1 (Kd.V_reads' (Kd.V_below ho hW)).2.2 (Kd.V_reads' ho).2.1 ((same_f (W := wd) (by omega) hoa).trans (congrArg some hc2))⟩
  have VO := Aside0.mk ho
  have VA := Aside0.mk ha
  have VB := Aside0.mk hb_
  have HXO := hoo
  have HXA := hoa
  have HXB := hob
  have ST := Aside0.mk hst
  have HQ := Aside0.mk hq
  have HQ2 := Aside0.mk (fun k (hk : Q k) => show ¬ (k = gm ∨ some k = vl.ownBlock) from fun h => (hq k hk).2 (h.imp_right Or.inl))
  have HN := Aside0.mk (fun k (hk : w.heap.size ≤ k) => show ¬ (k = gm ∨ some k = vl.ownBlock) from fun h => by have := hst.ms_lt (vl := vl) (vp := vp) (h.imp_right Or.inl : MS gm vl vp k); omega)
  have HBB := Aside0.mk (fun W (h : Below w.heap.size w W) => (⟨h.os, h.tape, h.output, h.size, fun i hi => h.block i (Nat.lt_of_lt_of_le hi hbs)⟩ : Below base w W))
  clear ho ha hb_ hst hq hsf hc0 hc1 hc2
  have hnl' : l.length ≤ 1000000000 := by omega
  clear hnl
  have hu := Try.underlying65
  have hu2 := Try.underlying26
  have hu3 := Try.underlying63
  have HB := Aside0.mk (Below.refl w.heap.size w)
  go_enter Try.func21, Try.ntmps21
  go_wp2_with (first
    | ((with_reducible refine gate_dst (N := 5) rfl ?_); refine box_event ?hg (N := 5) ?hd (cs := #[.bool o.1, .slice Ao o.2.length co, .bool false, .slice Aa a.length ca, .bool b.1, .slice Ab b.2.length cb]) (t := 65) ?hr ?_; (case hd => rfl); (case hg => rfl); (case hr => first | (go_simp; done) | (go_simp; rfl)); intro gb5 hg w5 hbox hb; have G_gb5 := Aside0.mk (show w.heap.size ≤ gb5 from by rw [hg]; exact HB.out.size); have NB := Aside0.mk (below_step HB.out hb); clear HB; have HB := NB; clear NB; have BK5 := Aside0.mk hbox; clear hbox hg hb)
    | ((with_reducible refine gate_dst (N := 6) rfl ?_); refine box_event ?hg (N := 6) ?hd (cs := #[.bool false, .slice none 0 0, .bool false, .slice none 0 0, .bool false, .slice none 0 0]) (t := 65) ?hr ?_; (case hd => rfl); (case hg => rfl); (case hr => first | (go_simp; done) | (go_simp; rfl)); intro gb6 hg w6 hbox hb; have N_BK5 := Aside0.mk (blk_below BK5.out hb); clear BK5; have BK5 := N_BK5; clear N_BK5; have G_gb6 := Aside0.mk (show w.heap.size ≤ gb6 from by rw [hg]; exact HB.out.size); have NB := Aside0.mk (below_step HB.out hb); clear HB; have HB := NB; clear NB; have BK6 := Aside0.mk hbox; clear hbox hg hb; have x0 : w6.cell? ⟨gb5, 0, none⟩ = some (.bool o.1) := (blk_cell BK5.out 0).trans rfl; have x1 : w6.cell? ⟨gb5, 1, none⟩ = some (.slice Ao o.2.length co) := (blk_cell BK5.out 1).trans rfl; have x2 : w6.cell? ⟨gb5, 2, none⟩ = some (.bool false) := (blk_cell BK5.out 2).trans rfl; have x3 : w6.cell? ⟨gb5, 3, none⟩ = some (.slice Aa a.length ca) := (blk_cell BK5.out 3).trans rfl; have x4 : w6.cell? ⟨gb5, 4, none⟩ = some (.bool b.1) := (blk_cell BK5.out 4).trans rfl; have x5 : w6.cell? ⟨gb5, 5, none⟩ = some (.slice Ab b.2.length cb) := (blk_cell BK5.out 5).trans rfl)
    | (go_at_call 27; (with_reducible refine (HAB.out _ HB.out).mono ?_); rintro e_ w7 ⟨rfl, hb⟩; clear x0 x1 x2 x3 x4 x5; have N5 := Aside0.mk (blk_below BK5.out hb); have N6 := Aside0.mk (blk_below BK6.out hb); have NB := Aside0.mk (below_step HB.out hb); clear HB BK5 BK6 hb; have HB := NB; have BK5 := N5; have BK6 := N6; clear NB N5 N6; have x0 : w7.cell? ⟨gb5, 0, none⟩ = some (.bool o.1) := (blk_cell BK5.out 0).trans rfl; have x1 : w7.cell? ⟨gb5, 1, none⟩ = some (.slice Ao o.2.length co) := (blk_cell BK5.out 1).trans rfl; have x2 : w7.cell? ⟨gb5, 2, none⟩ = some (.bool false) := (blk_cell BK5.out 2).trans rfl; have x3 : w7.cell? ⟨gb5, 3, none⟩ = some (.slice Aa a.length ca) := (blk_cell BK5.out 3).trans rfl; have x4 : w7.cell? ⟨gb5, 4, none⟩ = some (.bool b.1) := (blk_cell BK5.out 4).trans rfl; have x5 : w7.cell? ⟨gb5, 5, none⟩ = some (.slice Ab b.2.length cb) := (blk_cell BK5.out 5).trans rfl)
    | (go_at_call 27; (with_reducible refine (HBO.out _ HB.out).mono ?_); rintro e_ w8 ⟨rfl, hb⟩; clear x0 x1 x2 x3 x4 x5; have N5 := Aside0.mk (blk_below BK5.out hb); have N6 := Aside0.mk (blk_below BK6.out hb); have NB := Aside0.mk (below_step HB.out hb); clear HB BK5 BK6 hb; have HB := NB; have BK5 := N5; have BK6 := N6; clear NB N5 N6; have x0 : w8.cell? ⟨gb5, 0, none⟩ = some (.bool o.1) := (blk_cell BK5.out 0).trans rfl; have x1 : w8.cell? ⟨gb5, 1, none⟩ = some (.slice Ao o.2.length co) := (blk_cell BK5.out 1).trans rfl; have x2 : w8.cell? ⟨gb5, 2, none⟩ = some (.bool false) := (blk_cell BK5.out 2).trans rfl; have x3 : w8.cell? ⟨gb5, 3, none⟩ = some (.slice Aa a.length ca) := (blk_cell BK5.out 3).trans rfl; have x4 : w8.cell? ⟨gb5, 4, none⟩ = some (.bool b.1) := (blk_cell BK5.out 4).trans rfl; have x5 : w8.cell? ⟨gb5, 5, none⟩ = some (.slice Ab b.2.length cb) := (blk_cell BK5.out 5).trans rfl)
    | (go_at_call 27; (with_reducible refine (HAO.out _ HB.out).mono ?_); rintro e_ w9 ⟨rfl, hb⟩; clear x0 x1 x2 x3 x4 x5; have N5 := Aside0.mk (blk_below BK5.out hb); have N6 := Aside0.mk (blk_below BK6.out hb); have NB := Aside0.mk (below_step HB.out hb); clear HB BK5 BK6 hb; have HB := NB; have BK5 := N5; have BK6 := N6; clear NB N5 N6; have x0 : w9.cell? ⟨gb5, 0, none⟩ = some (.bool o.1) := (blk_cell BK5.out 0).trans rfl; have x1 : w9.cell? ⟨gb5, 1, none⟩ = some (.slice Ao o.2.length co) := (blk_cell BK5.out 1).trans rfl; have x2 : w9.cell? ⟨gb5, 2, none⟩ = some (.bool false) := (blk_cell BK5.out 2).trans rfl; have x3 : w9.cell? ⟨gb5, 3, none⟩ = some (.slice Aa a.length ca) := (blk_cell BK5.out 3).trans rfl; have x4 : w9.cell? ⟨gb5, 4, none⟩ = some (.bool b.1) := (blk_cell BK5.out 4).trans rfl; have x5 : w9.cell? ⟨gb5, 5, none⟩ = some (.slice Ab b.2.length cb) := (blk_cell BK5.out 5).trans rfl)
    | (go_at_call 29; (with_reducible refine (conflict_calls gm base As s.length cs vl vp l p 1 _ (ST.out.below HB.out) (by omega) (by omega) (Nat.le_trans hbs HB.out.size)).mono ?_); rintro e_ w10 ⟨rfl, vl2, hst2, hbb, hkp, hgr⟩; clear x0 x1 x2 x3 x4 x5; have N5 := Aside0.mk (blk_kept BK5.out hkp (HN.out _ G_gb5.out)); have N6 := Aside0.mk (blk_kept BK6.out hkp (HN.out _ G_gb6.out)); have SZ0 := Aside0.mk HB.out.size; have VO2 := Aside0.mk (Kd.V_kept (Kd.V_below VO.out HB.out) hkp HQ2.out); have VA2 := Aside0.mk (Kd.V_kept (Kd.V_below VA.out HB.out) hkp HQ2.out); have VB2 := Aside0.mk (Kd.V_kept (Kd.V_below VB.out HB.out) hkp HQ2.out); have ST2 := Aside0.mk hst2; have BB := Aside0.mk (Below.trans (HBB.out _ HB.out) hbb); have KP := Aside0.mk ((Kept.of_below HB.out (MS gm vl vp)).then_ hkp (fun k hk => .inl (hk.imp_right Or.inl))); have GR := Aside0.mk (show Gr w vl vl2 from hgr.imp_right (fun ⟨q, h1, h2⟩ => ⟨q, h1, Nat.le_trans HB.out.size h2⟩)); have SZ1 := Aside0.mk hkp.1; clear BK5 BK6 HB VO VA VB hst2 hbb hkp hgr; have BK5 := N5; have BK6 := N6; clear N5 N6; have x0 : w10.cell? ⟨gb5, 0, none⟩ = some (.bool o.1) := (blk_cell BK5.out 0).trans rfl; have x1 : w10.cell? ⟨gb5, 1, none⟩ = some (.slice Ao o.2.length co) := (blk_cell BK5.out 1).trans rfl; have x2 : w10.cell? ⟨gb5, 2, none⟩ = some (.bool false) := (blk_cell BK5.out 2).trans rfl; have x3 : w10.cell? ⟨gb5, 3, none⟩ = some (.slice Aa a.length ca) := (blk_cell BK5.out 3).trans rfl; have x4 : w10.cell? ⟨gb5, 4, none⟩ = some (.bool b.1) := (blk_cell BK5.out 4).trans rfl; have x5 : w10.cell? ⟨gb5, 5, none⟩ = some (.slice Ab b.2.length cb) := (blk_cell BK5.out 5).trans rfl)
    | (go_at_call 30; (refine (stay_c (by omega) HXO HXA HXB _ VO2.out VA2.out VB2.out).mono ?_); rintro e_ w11 ⟨v1, v3, v5, rfl, hv1, hv3, hv5, hb⟩; clear x0 x1 x2 x3 x4 x5; obtain ⟨A1, c1, rfl⟩ := Kd.V_slice hv1; obtain ⟨A3, c3, rfl⟩ := Kd.V_slice hv3; obtain ⟨A5, c5, rfl⟩ := Kd.V_slice hv5; have L6 := Aside0.mk (blk_lt BK6.out); have V1 := Aside0.mk hv1; have V3 := Aside0.mk hv3; have V5 := Aside0.mk hv5; have N6 := Aside0.mk (blk_below BK6.out hb); have HB := Aside0.mk hb; clear BK5 BK6 hb hv1 hv3 hv5; have BK6 := N6; clear N6; have hs0 : w11.cell? ⟨gb6, 0, none⟩ = some (.bool false) := (blk_cell BK6.out 0).trans rfl; have hf0 := blk_frozen BK6.out 0; have hs1 : w11.cell? ⟨gb6, 1, none⟩ = some (.slice none 0 0) := (blk_cell BK6.out 1).trans rfl; have hf1 := blk_frozen BK6.out 1; have hs2 : w11.cell? ⟨gb6, 2, none⟩ = some (.bool false) := (blk_cell BK6.out 2).trans rfl; have hf2 := blk_frozen BK6.out 2; have hs3 : w11.cell? ⟨gb6, 3, none⟩ = some (.slice none 0 0) := (blk_cell BK6.out 3).trans rfl; have hf3 := blk_frozen BK6.out 3; have hs4 : w11.cell? ⟨gb6, 4, none⟩ = some (.bool false) := (blk_cell BK6.out 4).trans rfl; have hf4 := blk_frozen BK6.out 4; have hs5 : w11.cell? ⟨gb6, 5, none⟩ = some (.slice none 0 0) := (blk_cell BK6.out 5).trans rfl; have hf5 := blk_frozen BK6.out 5))
  refine bodyPost_ret (results_cell_row rfl _ _ gb6 65 #[.bool o.1, .slice A1 o.2.length c1, .bool false, .slice A3 a.length c3, .bool b.1, .slice A5 b.2.length c5] (0, 0) _ rfl (put6_blk BK6.out) Try.underlying65 rfl (by kernel_rfl)) rfl ?_
  have hne : ∀ n, gb6 < n → ∀ k, (Q k ∨ n ≤ k) → k ≠ gb6 := fun n hn k hk => by
    have h1 := G_gb6.out
    rcases hk with hk | hk
    · have := (HQ.out k hk).1
      omega
    · omega
  refine ⟨vl2, vp, _, _, _, rfl, ?_, ?_, ?_, GR.out, .inl rfl, ?_, ?_, ?_⟩
  · exact (ST2.out.below HB.out).put6 BK6.out
  · exact put6_below (below_then BB.out (Nat.le_trans hbs (Nat.le_trans SZ0.out SZ1.out)) HB.out) (Nat.le_trans hbs G_gb6.out)
  · exact put6_kept (KP.out.below HB.out) (.inr G_gb6.out)
  · refine V_base (Kd.V_mono (Kd.V_bound (put6_V V1.out (hne _ L6.out))) (fun k hk => ?_))
    have h1 := SZ0.out
    have h2 := SZ1.out
    refine ⟨hk.1.imp_right (fun h => by omega), hk.2, fun hm => ?_⟩
    rcases hk.1 with h | h
    · obtain ⟨h3, h4⟩ := HQ.out k h
      rcases hm with hm | hm | hm
      · exact h4 (.inl hm)
      · rcases GR.out with h5 | ⟨q, h5, h6⟩
        · exact h4 (.inr (.inl (hm.trans h5)))
        · rw [h5] at hm
          injection hm with hm
          omega
      · exact h4 (.inr (.inr hm))
    · have := ST2.out.ms_lt hm
      omega
  · refine V_base (Kd.V_mono (Kd.V_bound (put6_V V3.out (hne _ L6.out))) (fun k hk => ?_))
    have h1 := SZ0.out
    have h2 := SZ1.out
    refine ⟨hk.1.imp_right (fun h => by omega), hk.2, fun hm => ?_⟩
    rcases hk.1 with h | h
    · obtain ⟨h3, h4⟩ := HQ.out k h
      rcases hm with hm | hm | hm
      · exact h4 (.inl hm)
      · rcases GR.out with h5 | ⟨q, h5, h6⟩
        · exact h4 (.inr (.inl (hm.trans h5)))
        · rw [h5] at hm
          injection hm with hm
          omega
      · exact h4 (.inr (.inr hm))
    · have := ST2.out.ms_lt hm
      omega
  · refine V_base (Kd.V_mono (Kd.V_bound (put6_V V5.out (hne _ L6.out))) (fun k hk => ?_))
    have h1 := SZ0.out
    have h2 := SZ1.out
    refine ⟨hk.1.imp_right (fun h => by omega), hk.2, fun hm => ?_⟩
    rcases hk.1 with h | h
    · obtain ⟨h3, h4⟩ := HQ.out k h
      rcases hm with hm | hm | hm
      · exact h4 (.inl hm)
      · rcases GR.out with h5 | ⟨q, h5, h6⟩
        · exact h4 (.inr (.inl (hm.trans h5)))
        · rw [h5] at hm
          injection hm with hm
          omega
      · exact h4 (.inr (.inr hm))
    · have := ST2.out.ms_lt hm
      omega
set_option maxHeartbeats 8000000 in
set_option maxRecDepth 100000 in
theorem merge_q5 {w : World} {gm base : Nat} {As : Option Addr} {cs : Nat} {s : Sc} {vl vp : Value} {l : List Cf} {p : List ByteArray} {o : OT} {a : Tr} {b : Tr} {vo va vb : Value} {Q : Nat → Prop} {wd D : Nat} (d : Int) (h : MIn w gm base As cs s vl vp l p o ((true, a) : OT) ((false, b) : OT) vo va vb Q wd D) (hc0 : sameO ((true, a) : OT) ((false, b) : OT) = false) (hc1 : sameO ((false, b) : OT) o = false) (hc2 : sameO ((true, a) : OT) o = false) :
    Calls Try.prog 21 #[.pointer (some ⟨gm, 0, none⟩), .int .i64 d, .agg #[.bool o.1, vo, .bool true, va, .bool false, vb]] w (MPost w gm base As cs s vl vp l p Q ((o, ((true, a) : OT), ((false, b) : OT)), [⟨p, 1⟩])) := by
  obtain ⟨hst, hbs, hok, hsc, hsf, ho, ha, hb_, hq, hoo, hoa, hob, hwd, hnl, hnp⟩ := h
  obtain ⟨Ao, co, rfl⟩ := Kd.V_slice ho
  obtain ⟨Aa, ca, rfl⟩ := Kd.V_slice ha
  obtain ⟨Ab, cb, rfl⟩ := Kd.V_slice hb_
  have HAB : Aside0 (∀ W, Below w.heap.size w W → Calls Try.prog 27 #[.agg #[.bool true, .slice Aa a.length ca], .agg #[.bool false, .slice Ab b.length cb]] W fun e w' => e = .returned (.bool false) ∧ Below W.heap.size W w') := ⟨fun W hW => merge_same.calls true Aa ca a false Ab cb b false W (Kd.V_reads' (Kd.V_below ha hW)).2.2 (Kd.V_reads' ha).2.1 (Kd.V_reads' (Kd.V_below hb_ hW)).2.2 (Kd.V_reads' hb_).2.1 ((same_f (W := wd) (by omega) hoa).trans (congrArg some hc0))⟩
  have HBO : Aside0 (∀ W, Below w.heap.size w W → Calls Try.prog 27 #[.agg #[.bool false, .slice Ab b.length cb], .agg #[.bool o.1, .slice Ao o.2.length co]] W fun e w' => e = .returned (.bool false) ∧ Below W.heap.size W w') := ⟨fun W hW => merge_same.calls false Ab cb b o.1 Ao co o.2 false W (Kd.V_reads' (Kd.V_below hb_ hW)).2.2 (Kd.V_reads' hb_).2.1 (Kd.V_reads' (Kd.V_below ho hW)).2.2 (Kd.V_reads' ho).2.1 ((same_f (W := wd) (by omega) hob).trans (congrArg some hc1))⟩
  have HAO : Aside0 (∀ W, Below w.heap.size w W → Calls Try.prog 27 #[.agg #[.bool true, .slice Aa a.length ca], .agg #[.bool o.1, .slice Ao o.2.length co]] W fun e w' => e = .returned (.bool false) ∧ Below W.heap.size W w') := ⟨fun W hW => merge_same.calls true Aa ca a o.1 Ao co o.2 false W (Kd.V_reads' (Kd.V_below ha hW)).2.2 (Kd.V_reads' ha).2.1 (Kd.V_reads' (Kd.V_below ho hW)).2.2 (Kd.V_reads' ho).2.1 ((same_f (W := wd) (by omega) hoa).trans (congrArg some hc2))⟩
  have VO := Aside0.mk ho
  have VA := Aside0.mk ha
  have VB := Aside0.mk hb_
  have HXO := hoo
  have HXA := hoa
  have HXB := hob
  have ST := Aside0.mk hst
  have HQ := Aside0.mk hq
  have HQ2 := Aside0.mk (fun k (hk : Q k) => show ¬ (k = gm ∨ some k = vl.ownBlock) from fun h => (hq k hk).2 (h.imp_right Or.inl))
  have HN := Aside0.mk (fun k (hk : w.heap.size ≤ k) => show ¬ (k = gm ∨ some k = vl.ownBlock) from fun h => by have := hst.ms_lt (vl := vl) (vp := vp) (h.imp_right Or.inl : MS gm vl vp k); omega)
  have HBB := Aside0.mk (fun W (h : Below w.heap.size w W) => (⟨h.os, h.tape, h.output, h.size, fun i hi => h.block i (Nat.lt_of_lt_of_le hi hbs)⟩ : Below base w W))
  clear ho ha hb_ hst hq hsf hc0 hc1 hc2
  have hnl' : l.length ≤ 1000000000 := by omega
  clear hnl
  have hu := Try.underlying65
  have hu2 := Try.underlying26
  have hu3 := Try.underlying63
  have HB := Aside0.mk (Below.refl w.heap.size w)
  go_enter Try.func21, Try.ntmps21
  go_wp2_with (first
    | ((with_reducible refine gate_dst (N := 5) rfl ?_); refine box_event ?hg (N := 5) ?hd (cs := #[.bool o.1, .slice Ao o.2.length co, .bool true, .slice Aa a.length ca, .bool false, .slice Ab b.length cb]) (t := 65) ?hr ?_; (case hd => rfl); (case hg => rfl); (case hr => first | (go_simp; done) | (go_simp; rfl)); intro gb5 hg w5 hbox hb; have G_gb5 := Aside0.mk (show w.heap.size ≤ gb5 from by rw [hg]; exact HB.out.size); have NB := Aside0.mk (below_step HB.out hb); clear HB; have HB := NB; clear NB; have BK5 := Aside0.mk hbox; clear hbox hg hb)
    | ((with_reducible refine gate_dst (N := 6) rfl ?_); refine box_event ?hg (N := 6) ?hd (cs := #[.bool false, .slice none 0 0, .bool false, .slice none 0 0, .bool false, .slice none 0 0]) (t := 65) ?hr ?_; (case hd => rfl); (case hg => rfl); (case hr => first | (go_simp; done) | (go_simp; rfl)); intro gb6 hg w6 hbox hb; have N_BK5 := Aside0.mk (blk_below BK5.out hb); clear BK5; have BK5 := N_BK5; clear N_BK5; have G_gb6 := Aside0.mk (show w.heap.size ≤ gb6 from by rw [hg]; exact HB.out.size); have NB := Aside0.mk (below_step HB.out hb); clear HB; have HB := NB; clear NB; have BK6 := Aside0.mk hbox; clear hbox hg hb; have x0 : w6.cell? ⟨gb5, 0, none⟩ = some (.bool o.1) := (blk_cell BK5.out 0).trans rfl; have x1 : w6.cell? ⟨gb5, 1, none⟩ = some (.slice Ao o.2.length co) := (blk_cell BK5.out 1).trans rfl; have x2 : w6.cell? ⟨gb5, 2, none⟩ = some (.bool true) := (blk_cell BK5.out 2).trans rfl; have x3 : w6.cell? ⟨gb5, 3, none⟩ = some (.slice Aa a.length ca) := (blk_cell BK5.out 3).trans rfl; have x4 : w6.cell? ⟨gb5, 4, none⟩ = some (.bool false) := (blk_cell BK5.out 4).trans rfl; have x5 : w6.cell? ⟨gb5, 5, none⟩ = some (.slice Ab b.length cb) := (blk_cell BK5.out 5).trans rfl)
    | (go_at_call 27; (with_reducible refine (HAB.out _ HB.out).mono ?_); rintro e_ w7 ⟨rfl, hb⟩; clear x0 x1 x2 x3 x4 x5; have N5 := Aside0.mk (blk_below BK5.out hb); have N6 := Aside0.mk (blk_below BK6.out hb); have NB := Aside0.mk (below_step HB.out hb); clear HB BK5 BK6 hb; have HB := NB; have BK5 := N5; have BK6 := N6; clear NB N5 N6; have x0 : w7.cell? ⟨gb5, 0, none⟩ = some (.bool o.1) := (blk_cell BK5.out 0).trans rfl; have x1 : w7.cell? ⟨gb5, 1, none⟩ = some (.slice Ao o.2.length co) := (blk_cell BK5.out 1).trans rfl; have x2 : w7.cell? ⟨gb5, 2, none⟩ = some (.bool true) := (blk_cell BK5.out 2).trans rfl; have x3 : w7.cell? ⟨gb5, 3, none⟩ = some (.slice Aa a.length ca) := (blk_cell BK5.out 3).trans rfl; have x4 : w7.cell? ⟨gb5, 4, none⟩ = some (.bool false) := (blk_cell BK5.out 4).trans rfl; have x5 : w7.cell? ⟨gb5, 5, none⟩ = some (.slice Ab b.length cb) := (blk_cell BK5.out 5).trans rfl)
    | (go_at_call 27; (with_reducible refine (HBO.out _ HB.out).mono ?_); rintro e_ w8 ⟨rfl, hb⟩; clear x0 x1 x2 x3 x4 x5; have N5 := Aside0.mk (blk_below BK5.out hb); have N6 := Aside0.mk (blk_below BK6.out hb); have NB := Aside0.mk (below_step HB.out hb); clear HB BK5 BK6 hb; have HB := NB; have BK5 := N5; have BK6 := N6; clear NB N5 N6; have x0 : w8.cell? ⟨gb5, 0, none⟩ = some (.bool o.1) := (blk_cell BK5.out 0).trans rfl; have x1 : w8.cell? ⟨gb5, 1, none⟩ = some (.slice Ao o.2.length co) := (blk_cell BK5.out 1).trans rfl; have x2 : w8.cell? ⟨gb5, 2, none⟩ = some (.bool true) := (blk_cell BK5.out 2).trans rfl; have x3 : w8.cell? ⟨gb5, 3, none⟩ = some (.slice Aa a.length ca) := (blk_cell BK5.out 3).trans rfl; have x4 : w8.cell? ⟨gb5, 4, none⟩ = some (.bool false) := (blk_cell BK5.out 4).trans rfl; have x5 : w8.cell? ⟨gb5, 5, none⟩ = some (.slice Ab b.length cb) := (blk_cell BK5.out 5).trans rfl)
    | (go_at_call 27; (with_reducible refine (HAO.out _ HB.out).mono ?_); rintro e_ w9 ⟨rfl, hb⟩; clear x0 x1 x2 x3 x4 x5; have N5 := Aside0.mk (blk_below BK5.out hb); have N6 := Aside0.mk (blk_below BK6.out hb); have NB := Aside0.mk (below_step HB.out hb); clear HB BK5 BK6 hb; have HB := NB; have BK5 := N5; have BK6 := N6; clear NB N5 N6; have x0 : w9.cell? ⟨gb5, 0, none⟩ = some (.bool o.1) := (blk_cell BK5.out 0).trans rfl; have x1 : w9.cell? ⟨gb5, 1, none⟩ = some (.slice Ao o.2.length co) := (blk_cell BK5.out 1).trans rfl; have x2 : w9.cell? ⟨gb5, 2, none⟩ = some (.bool true) := (blk_cell BK5.out 2).trans rfl; have x3 : w9.cell? ⟨gb5, 3, none⟩ = some (.slice Aa a.length ca) := (blk_cell BK5.out 3).trans rfl; have x4 : w9.cell? ⟨gb5, 4, none⟩ = some (.bool false) := (blk_cell BK5.out 4).trans rfl; have x5 : w9.cell? ⟨gb5, 5, none⟩ = some (.slice Ab b.length cb) := (blk_cell BK5.out 5).trans rfl)
    | (go_at_call 29; (with_reducible refine (conflict_calls gm base As s.length cs vl vp l p 1 _ (ST.out.below HB.out) (by omega) (by omega) (Nat.le_trans hbs HB.out.size)).mono ?_); rintro e_ w10 ⟨rfl, vl2, hst2, hbb, hkp, hgr⟩; clear x0 x1 x2 x3 x4 x5; have N5 := Aside0.mk (blk_kept BK5.out hkp (HN.out _ G_gb5.out)); have N6 := Aside0.mk (blk_kept BK6.out hkp (HN.out _ G_gb6.out)); have SZ0 := Aside0.mk HB.out.size; have VO2 := Aside0.mk (Kd.V_kept (Kd.V_below VO.out HB.out) hkp HQ2.out); have VA2 := Aside0.mk (Kd.V_kept (Kd.V_below VA.out HB.out) hkp HQ2.out); have VB2 := Aside0.mk (Kd.V_kept (Kd.V_below VB.out HB.out) hkp HQ2.out); have ST2 := Aside0.mk hst2; have BB := Aside0.mk (Below.trans (HBB.out _ HB.out) hbb); have KP := Aside0.mk ((Kept.of_below HB.out (MS gm vl vp)).then_ hkp (fun k hk => .inl (hk.imp_right Or.inl))); have GR := Aside0.mk (show Gr w vl vl2 from hgr.imp_right (fun ⟨q, h1, h2⟩ => ⟨q, h1, Nat.le_trans HB.out.size h2⟩)); have SZ1 := Aside0.mk hkp.1; clear BK5 BK6 HB VO VA VB hst2 hbb hkp hgr; have BK5 := N5; have BK6 := N6; clear N5 N6; have x0 : w10.cell? ⟨gb5, 0, none⟩ = some (.bool o.1) := (blk_cell BK5.out 0).trans rfl; have x1 : w10.cell? ⟨gb5, 1, none⟩ = some (.slice Ao o.2.length co) := (blk_cell BK5.out 1).trans rfl; have x2 : w10.cell? ⟨gb5, 2, none⟩ = some (.bool true) := (blk_cell BK5.out 2).trans rfl; have x3 : w10.cell? ⟨gb5, 3, none⟩ = some (.slice Aa a.length ca) := (blk_cell BK5.out 3).trans rfl; have x4 : w10.cell? ⟨gb5, 4, none⟩ = some (.bool false) := (blk_cell BK5.out 4).trans rfl; have x5 : w10.cell? ⟨gb5, 5, none⟩ = some (.slice Ab b.length cb) := (blk_cell BK5.out 5).trans rfl)
    | (go_at_call 30; (refine (stay_c (by omega) HXO HXA HXB _ VO2.out VA2.out VB2.out).mono ?_); rintro e_ w11 ⟨v1, v3, v5, rfl, hv1, hv3, hv5, hb⟩; clear x0 x1 x2 x3 x4 x5; obtain ⟨A1, c1, rfl⟩ := Kd.V_slice hv1; obtain ⟨A3, c3, rfl⟩ := Kd.V_slice hv3; obtain ⟨A5, c5, rfl⟩ := Kd.V_slice hv5; have L6 := Aside0.mk (blk_lt BK6.out); have V1 := Aside0.mk hv1; have V3 := Aside0.mk hv3; have V5 := Aside0.mk hv5; have N6 := Aside0.mk (blk_below BK6.out hb); have HB := Aside0.mk hb; clear BK5 BK6 hb hv1 hv3 hv5; have BK6 := N6; clear N6; have hs0 : w11.cell? ⟨gb6, 0, none⟩ = some (.bool false) := (blk_cell BK6.out 0).trans rfl; have hf0 := blk_frozen BK6.out 0; have hs1 : w11.cell? ⟨gb6, 1, none⟩ = some (.slice none 0 0) := (blk_cell BK6.out 1).trans rfl; have hf1 := blk_frozen BK6.out 1; have hs2 : w11.cell? ⟨gb6, 2, none⟩ = some (.bool false) := (blk_cell BK6.out 2).trans rfl; have hf2 := blk_frozen BK6.out 2; have hs3 : w11.cell? ⟨gb6, 3, none⟩ = some (.slice none 0 0) := (blk_cell BK6.out 3).trans rfl; have hf3 := blk_frozen BK6.out 3; have hs4 : w11.cell? ⟨gb6, 4, none⟩ = some (.bool false) := (blk_cell BK6.out 4).trans rfl; have hf4 := blk_frozen BK6.out 4; have hs5 : w11.cell? ⟨gb6, 5, none⟩ = some (.slice none 0 0) := (blk_cell BK6.out 5).trans rfl; have hf5 := blk_frozen BK6.out 5))
  refine bodyPost_ret (results_cell_row rfl _ _ gb6 65 #[.bool o.1, .slice A1 o.2.length c1, .bool true, .slice A3 a.length c3, .bool false, .slice A5 b.length c5] (0, 0) _ rfl (put6_blk BK6.out) Try.underlying65 rfl (by kernel_rfl)) rfl ?_
  have hne : ∀ n, gb6 < n → ∀ k, (Q k ∨ n ≤ k) → k ≠ gb6 := fun n hn k hk => by
    have h1 := G_gb6.out
    rcases hk with hk | hk
    · have := (HQ.out k hk).1
      omega
    · omega
  refine ⟨vl2, vp, _, _, _, rfl, ?_, ?_, ?_, GR.out, .inl rfl, ?_, ?_, ?_⟩
  · exact (ST2.out.below HB.out).put6 BK6.out
  · exact put6_below (below_then BB.out (Nat.le_trans hbs (Nat.le_trans SZ0.out SZ1.out)) HB.out) (Nat.le_trans hbs G_gb6.out)
  · exact put6_kept (KP.out.below HB.out) (.inr G_gb6.out)
  · refine V_base (Kd.V_mono (Kd.V_bound (put6_V V1.out (hne _ L6.out))) (fun k hk => ?_))
    have h1 := SZ0.out
    have h2 := SZ1.out
    refine ⟨hk.1.imp_right (fun h => by omega), hk.2, fun hm => ?_⟩
    rcases hk.1 with h | h
    · obtain ⟨h3, h4⟩ := HQ.out k h
      rcases hm with hm | hm | hm
      · exact h4 (.inl hm)
      · rcases GR.out with h5 | ⟨q, h5, h6⟩
        · exact h4 (.inr (.inl (hm.trans h5)))
        · rw [h5] at hm
          injection hm with hm
          omega
      · exact h4 (.inr (.inr hm))
    · have := ST2.out.ms_lt hm
      omega
  · refine V_base (Kd.V_mono (Kd.V_bound (put6_V V3.out (hne _ L6.out))) (fun k hk => ?_))
    have h1 := SZ0.out
    have h2 := SZ1.out
    refine ⟨hk.1.imp_right (fun h => by omega), hk.2, fun hm => ?_⟩
    rcases hk.1 with h | h
    · obtain ⟨h3, h4⟩ := HQ.out k h
      rcases hm with hm | hm | hm
      · exact h4 (.inl hm)
      · rcases GR.out with h5 | ⟨q, h5, h6⟩
        · exact h4 (.inr (.inl (hm.trans h5)))
        · rw [h5] at hm
          injection hm with hm
          omega
      · exact h4 (.inr (.inr hm))
    · have := ST2.out.ms_lt hm
      omega
  · refine V_base (Kd.V_mono (Kd.V_bound (put6_V V5.out (hne _ L6.out))) (fun k hk => ?_))
    have h1 := SZ0.out
    have h2 := SZ1.out
    refine ⟨hk.1.imp_right (fun h => by omega), hk.2, fun hm => ?_⟩
    rcases hk.1 with h | h
    · obtain ⟨h3, h4⟩ := HQ.out k h
      rcases hm with hm | hm | hm
      · exact h4 (.inl hm)
      · rcases GR.out with h5 | ⟨q, h5, h6⟩
        · exact h4 (.inr (.inl (hm.trans h5)))
        · rw [h5] at hm
          injection hm with hm
          omega
      · exact h4 (.inr (.inr hm))
    · have := ST2.out.ms_lt hm
      omega
end Go.Proofs.Ytainbaehfdhmbaa.PX
set_option linter.unusedVariables false
set_option linter.unusedSimpArgs false
namespace Go.Proofs.Ytainbaehfdhmbaa.PX
open Go.RowKit Go.Proofs.YtainbaehfdhmbaaW.PrintWords Go.Proofs.YtainbaehfdhmbaaW.PrintLast Go.Proofs.YtainbaehfdhmbaaW.PrintMore Go.Proofs.Ytainbaehfdhmbaa
section
variable {P : Program} {ops : Array Oper} {rest : List Oper} {o : Oper} {a : Act} {Q : Exit → Act → World → Prop}
theorem C_lit {α : Type} (d : Kd α) (W : World) (e : Nat) {xs : List α} {inner : List Value} (hr : Reps (d.K W) d.sz xs inner) (hm : xs.length ≤ 9223372036854775807) : d.C (W.alloc (.cells inner.toArray e)) (some ⟨W.heap.size, 0, none⟩) xs.length xs := by
  obtain ⟨A, c, he, _, h⟩ := (OwnRow.lit (e := e) W W.heap.size hr (Nat.le_refl _) hm).reads
  injection he with h1 _ _
  subst h1
  exact ReadsRow.imp_ (w := W.alloc (.cells inner.toArray e)) h (Below.refl _ _) (fun p c hp => d.K_below (below_alloc (Below.refl _ _) _) hp)
theorem lit_event {α : Type} (d : Kd α) (e : Nat) {W : World} (hgd : o.guard = none) {N : Tmp} (_hd : o.dst = some N) {xs ys : List α} {inner : List Value} (hy : ys = xs)
    (hrun : (execOp a.eval o).run P W = .ok (.value (.slice (some ⟨W.heap.size, 0, none⟩) xs.length xs.length)) (W.alloc (.cells inner.toArray e)))
    (hrep : Reps (d.K W) d.sz xs inner) (hm : xs.length ≤ 9223372036854775807)
    (h : ∀ A1 w1, d.C w1 A1 ys.length ys → Below W.heap.size W w1 → wpList P ops Q rest (a.put o.dst (.slice A1 ys.length ys.length)) w1) : wpList P ops Q (o :: rest) a W := by
  subst hy
  exact Kd.event_run hgd hrun (h _ _ (C_lit d W e hrep hm) (below_alloc (Below.refl _ _) _))
end
end Go.Proofs.Ytainbaehfdhmbaa.PX
set_option linter.unusedVariables false
set_option linter.unusedSimpArgs false
namespace Go.Proofs.Ytainbaehfdhmbaa.PX
open Go.RowKit Go.Proofs.YtainbaehfdhmbaaW.PrintWords Go.Proofs.YtainbaehfdhmbaaW.PrintLast Go.Proofs.YtainbaehfdhmbaaW.PrintMore Go.Proofs.Ytainbaehfdhmbaa Go.Shelf
def MergeSpec (wd k : Nat) : Prop := ∀ {w : World} {gm base : Nat} {As : Option Addr} {cs : Nat} {s : Sc} {vl vp : Value} {l : List Cf} {p : List ByteArray} {o a b : OT} {vo va vb : Value} {Q : Nat → Prop} (d : Int), MIn w gm base As cs s vl vp l p o a b vo va vb Q wd k →
    Calls Try.prog 21 #[.pointer (some ⟨gm, 0, none⟩), .int .i64 d, .agg #[.bool o.1, vo, .bool a.1, va, .bool b.1, vb]] w (MPost w gm base As cs s vl vp l p Q (mergeM s k d p o a b))
end Go.Proofs.Ytainbaehfdhmbaa.PX
set_option linter.unusedVariables false
set_option linter.unusedSimpArgs false
namespace Go.Proofs.Ytainbaehfdhmbaa.PX
open Go.RowKit Go.Proofs.YtainbaehfdhmbaaW.PrintWords Go.Proofs.YtainbaehfdhmbaaW.PrintLast Go.Proofs.YtainbaehfdhmbaaW.PrintMore Go.Proofs.Ytainbaehfdhmbaa Go.Shelf
structure EInv (w W : World) (gm base : Nat) (As : Option Addr) (cs : Nat) (s : Sc) (vl vp : Value) (l : List Cf) (p : List ByteArray) (Q : Nat → Prop) (gb5 gb6 gb7 : Nat) (X : Nat → Prop) (c5 c7 : Array Value) (vn : Value) (ns : List ByteArray) (acc : (Tr × Tr × Tr) × List Cf) (vl' vp' uO uA uB : Value) : Prop where
  st : MSt W gm base As s.length cs vl' vp' (l ++ acc.2) p
  b5 : W.heap[gb5]? = some (.cells c5 65 (0, 0))
  b6 : W.heap[gb6]? = some (.cells #[.bool false, .slice none 0 0, .bool false, .slice none 0 0, .bool false, .slice none 0 0] 65 (0, 0))
  b7 : W.heap[gb7]? = some (.cells c7 84 (0, 0))
  no : Kd.N k51 51 W w.heap.size (fun k => ((Q k ∨ w.heap.size ≤ k) ∧ ¬ MS gm vl' vp' k ∧ ¬ X k) ∧ some k ≠ uA.ownBlock ∧ some k ≠ uB.ownBlock) uO acc.1.1
  na : Kd.N k51 51 W w.heap.size (fun k => ((Q k ∨ w.heap.size ≤ k) ∧ ¬ MS gm vl' vp' k ∧ ¬ X k) ∧ some k ≠ uO.ownBlock ∧ some k ≠ uB.ownBlock) uA acc.1.2.1
  nb : Kd.N k51 51 W w.heap.size (fun k => ((Q k ∨ w.heap.size ≤ k) ∧ ¬ MS gm vl' vp' k ∧ ¬ X k) ∧ some k ≠ uO.ownBlock ∧ some k ≠ uA.ownBlock) uB acc.1.2.2
  vn : Kd.R Kd.string 9 W w.heap.size (fun k => ¬ MS gm vl' vp' k ∧ ¬ X k) vn ns
  bel : Below base w W
  kp : Kept w W (MS gm vl vp)
  gl : Gr w vl vl'
  gp : Gr w vp vp'
theorem not_ms {W : World} {gm base : Nat} {As : Option Addr} {n cs : Nat} {vl vp : Value} {l : List Cf} {p : List ByteArray} (h : MSt W gm base As n cs vl vp l p) {g : Nat} {c : Array Value} {t : Nat} (hb : W.heap[g]? = some (.cells c t (0, 0))) (h1 : 63 ≠ t) (h2 : 38 ≠ t) (h3 : 9 ≠ t) : ¬ MS gm vl vp g := fun hm => by
  rcases hm with rfl | hm | hm
  · exact blk_ne h.blk hb h1 rfl
  · exact Kd.R_ne h.hl hb h2 hm
  · exact Kd.R_ne h.hp hb h3 hm
theorem not_ms_step {W : World} {gm : Nat} {vl vp vl2 vp2 : Value} {k : Nat} (hn : ¬ MS gm vl vp k) (hlt : k < W.heap.size) (g1 : Gr W vl vl2) (g2 : Gr W vp vp2) : ¬ MS gm vl2 vp2 k := fun hm => by
  rcases hm with hm | hm | hm
  · exact hn (.inl hm)
  · rcases g1 with g | ⟨q, g, hq⟩
    · exact hn (.inr (.inl (hm.trans g)))
    · rw [g] at hm
      injection hm with hm
      omega
  · rcases g2 with g | ⟨q, g, hq⟩
    · exact hn (.inr (.inr (hm.trans g)))
    · rw [g] at hm
      injection hm with hm
      omega
theorem Gr.trans {w W : World} {v v1 v2 : Value} (h : Gr w v v1) (hs : w.heap.size ≤ W.heap.size) (h' : Gr W v1 v2) : Gr w v v2 := by
  rcases h' with h' | ⟨q, h1, h2⟩
  · rcases h with h | ⟨q, h1, h2⟩
    · exact .inl (h'.trans h)
    · exact .inr ⟨q, h'.trans h1, h2⟩
  · exact .inr ⟨q, h1, Nat.le_trans hs h2⟩
section
variable {w W W' : World} {gm base : Nat} {As : Option Addr} {cs : Nat} {s : Sc} {vl vp : Value} {l : List Cf} {p : List ByteArray} {Q : Nat → Prop} {gb5 gb6 gb7 : Nat} {X : Nat → Prop} {c5 c7 : Array Value} {vn : Value} {ns : List ByteArray} {acc : (Tr × Tr × Tr) × List Cf} {vl' vp' uO uA uB : Value}
theorem EInv.move (h : EInv w W gm base As cs s vl vp l p Q gb5 gb6 gb7 X c5 c7 vn ns acc vl' vp' uO uA uB) (hk : Kept W W' (MS gm vl' vp')) (hb : Below base W W') {vl2 vp2 : Value} {cf : List Cf} {p2 : List ByteArray} (hst : MSt W' gm base As s.length cs vl2 vp2 (l ++ cf) p2) (g1 : Gr W vl' vl2) (g2 : Gr W vp' vp2) :
    EInv w W' gm base As cs s vl vp l p2 Q gb5 gb6 gb7 X c5 c7 vn ns (acc.1, cf) vl2 vp2 uO uA uB := by
  have hN : ∀ {ok : Nat → Prop} {v : Value} {t : Tr}, Kd.N k51 51 W w.heap.size (fun k => ((Q k ∨ w.heap.size ≤ k) ∧ ¬ MS gm vl' vp' k ∧ ¬ X k) ∧ ok k) v t → Kd.N k51 51 W' w.heap.size (fun k => ((Q k ∨ w.heap.size ≤ k) ∧ ¬ MS gm vl2 vp2 k ∧ ¬ X k) ∧ ok k) v t := fun h =>
    Kd.N_mono (Kd.N_kept (Kd.N_bound h) hk (fun k hk => hk.1.1.2.1)) (fun k hk => ⟨⟨hk.1.1.1, not_ms_step hk.1.1.2.1 hk.2 g1 g2, hk.1.1.2.2⟩, hk.1.2⟩)
  refine ⟨hst, blk_kept h.b5 hk (not_ms h.st h.b5 (by decide) (by decide) (by decide)), blk_kept h.b6 hk (not_ms h.st h.b6 (by decide) (by decide) (by decide)), blk_kept h.b7 hk (not_ms h.st h.b7 (by decide) (by decide) (by decide)), hN h.no, hN h.na, hN h.nb, ?_, Below.trans h.bel hb, ?_, h.gl.trans h.bel.size g1, h.gp.trans h.bel.size g2⟩
  · exact Kd.R_mono (Kd.R_step (Kd.R_bound h.vn) (fun k hq hlt => hk.2 k hlt hq.1.1)) (fun k hk => ⟨not_ms_step hk.1.1 hk.2.2.1 g1 g2, hk.1.2⟩)
  · refine h.kp.then_ hk (fun k hk => ?_)
    rcases hk with hk | hk | hk
    · exact .inl (.inl hk)
    · rcases h.gl with g | ⟨q, g, hq⟩
      · exact .inl (.inr (.inl (hk.trans g)))
      · rw [g] at hk
        injection hk with hk
        exact .inr (by omega)
    · rcases h.gp with g | ⟨q, g, hq⟩
      · exact .inl (.inr (.inr (hk.trans g)))
      · rw [g] at hk
        injection hk with hk
        exact .inr (by omega)
theorem _root_.Go.World.grownBy.below_ {W W1 : World} {v : Value} (B : Nat) (hg : W.grownBy W1 v.ownBlock) (hv : ∀ k, v.ownBlock = some k → B ≤ k) (hB : B ≤ W.heap.size) : Below B W W1 :=
  ⟨hg.os, hg.tape, hg.output, hg.size, fun i hi => hg.block i (Nat.lt_of_lt_of_le hi hB) (fun e => by have := hv i e.symm; omega)⟩
theorem EInv.newX (h : EInv w W gm base As cs s vl vp l p Q gb5 gb6 gb7 X c5 c7 vn ns acc vl' vp' uO uA uB) : EInv w W gm base As cs s vl vp l p Q gb5 gb6 gb7 (fun k => X k ∨ W.heap.size ≤ k) c5 c7 vn ns acc vl' vp' uO uA uB := by
  have hN : ∀ {ok : Nat → Prop} {v : Value} {t : Tr}, Kd.N k51 51 W w.heap.size (fun k => ((Q k ∨ w.heap.size ≤ k) ∧ ¬ MS gm vl' vp' k ∧ ¬ X k) ∧ ok k) v t → Kd.N k51 51 W w.heap.size (fun k => ((Q k ∨ w.heap.size ≤ k) ∧ ¬ MS gm vl' vp' k ∧ ¬ (X k ∨ W.heap.size ≤ k)) ∧ ok k) v t := fun h =>
    Kd.N_mono (Kd.N_bound h) (fun k hk => ⟨⟨hk.1.1.1, hk.1.1.2.1, fun e => e.elim hk.1.1.2.2 (fun e => by have := hk.2; omega)⟩, hk.1.2⟩)
  exact ⟨h.st, h.b5, h.b6, h.b7, hN h.no, hN h.na, hN h.nb, Kd.R_mono (Kd.R_bound h.vn) (fun k hk => ⟨hk.1.1, fun e => e.elim hk.1.2 (fun e => by have := hk.2.2.1; omega)⟩), h.bel, h.kp, h.gl, h.gp⟩
theorem EInv.put6 (h : EInv w W gm base As cs s vl vp l p Q gb5 gb6 gb7 X c5 c7 vn ns acc vl' vp' uO uA uB) {g : Nat} {v0 v1 v2 v3 v4 v5 a0 a1 a2 a3 a4 a5 : Value} (hb : W.heap[g]? = some (.cells #[a0, a1, a2, a3, a4, a5] 65 (0, 0))) (hg : w.heap.size ≤ g) (hbs : base ≤ w.heap.size) (hX : X g) (h5 : gb5 ≠ g) (h6 : gb6 ≠ g) :
    EInv w (PX.put6 W g v0 v1 v2 v3 v4 v5) gm base As cs s vl vp l p Q gb5 gb6 gb7 X c5 c7 vn ns acc vl' vp' uO uA uB := by
  have hk : Kept W (PX.put6 W g v0 v1 v2 v3 v4 v5) (fun k => k = g) := put6_kept (Kept.refl _ _) (.inl rfl)
  exact ⟨h.st.put6 hb, blk_kept h.b5 hk h5, blk_kept h.b6 hk h6, blk_kept h.b7 hk (blk_ne h.b7 hb (by decide)), Kd.N_kept h.no hk (fun k hq e => hq.1.2.2 (e ▸ hX)), Kd.N_kept h.na hk (fun k hq e => hq.1.2.2 (e ▸ hX)), Kd.N_kept h.nb hk (fun k hq e => hq.1.2.2 (e ▸ hX)), Kd.R_step h.vn (fun k hq hlt => hk.2 k hlt (fun e => hq.2 (e ▸ hX))), put6_below h.bel (Nat.le_trans hbs hg), put6_kept h.kp (.inr hg), h.gl, h.gp⟩
theorem EInv.lessX (h : EInv w W gm base As cs s vl vp l p Q gb5 gb6 gb7 X c5 c7 vn ns acc vl' vp' uO uA uB) {X' : Nat → Prop} (hX : ∀ k, X' k → X k) : EInv w W gm base As cs s vl vp l p Q gb5 gb6 gb7 X' c5 c7 vn ns acc vl' vp' uO uA uB :=
  ⟨h.st, h.b5, h.b6, h.b7, Kd.N_mono h.no (fun k hk => ⟨⟨hk.1.1, hk.1.2.1, fun e => hk.1.2.2 (hX k e)⟩, hk.2⟩), Kd.N_mono h.na (fun k hk => ⟨⟨hk.1.1, hk.1.2.1, fun e => hk.1.2.2 (hX k e)⟩, hk.2⟩), Kd.N_mono h.nb (fun k hk => ⟨⟨hk.1.1, hk.1.2.1, fun e => hk.1.2.2 (hX k e)⟩, hk.2⟩), Kd.R_mono h.vn (fun k hk => ⟨hk.1, fun e => hk.2 (hX k e)⟩), h.bel, h.kp, h.gl, h.gp⟩
theorem EInv.putO (h : EInv w W gm base As cs s vl vp l p Q gb5 gb6 gb7 X c5 c7 vn ns acc vl' vp' uO uA uB) (hk : Kept W W' (fun k => some k = uO.ownBlock)) (hb : Below w.heap.size W W') (hbs : base ≤ w.heap.size) {u' : Value} {t' : Tr} (hN : Kd.N k51 51 W' w.heap.size (fun k => ((Q k ∨ w.heap.size ≤ k) ∧ ¬ MS gm vl' vp' k ∧ ¬ X k) ∧ some k ≠ uA.ownBlock ∧ some k ≠ uB.ownBlock) u' t') (g : Gr W uO u') :
    EInv w W' gm base As cs s vl vp l p Q gb5 gb6 gb7 X c5 c7 vn ns ((t', acc.1.2), acc.2) vl' vp' u' uA uB := by
  have hS : ∀ k, k < W.heap.size → some k ≠ uO.ownBlock → some k ≠ u'.ownBlock := fun k hlt hn e => by
    rcases g with g | ⟨q, g, hq⟩
    · exact hn (e.trans g)
    · rw [g] at e
      injection e with e
      omega
  have hR : ∀ k, (∃ q, q ∈ 38 :: k38.E ∧ ∃ c, W.heap[k]? = some (.cells c q (0, 0))) → ¬ some k = uO.ownBlock := fun k ⟨q, hq, c, hc⟩ => Kd.N_ne h.no hc (fun e => by subst e; revert hq; decide)
  have hR9 : ∀ k, (∃ q, q ∈ 9 :: Kd.string.E ∧ ∃ c, W.heap[k]? = some (.cells c q (0, 0))) → ¬ some k = uO.ownBlock := fun k ⟨q, hq, c, hc⟩ => Kd.N_ne h.no hc (fun e => by subst e; revert hq; decide)
  have hb0 : Below base W W' := ⟨hb.os, hb.tape, hb.output, hb.size, fun i hi => hb.block i (Nat.lt_of_lt_of_le hi hbs)⟩
  exact ⟨⟨blk_kept h.st.blk hk (Kd.N_ne h.no h.st.blk (by decide)), Kd.R_mono (Kd.R_step (Kd.R_bound h.st.hl) (fun k hq hlt => hk.2 k hlt (hR k hq.2.2.2))) (fun k hq => hq.1), Kd.R_mono (Kd.R_step (Kd.R_bound h.st.hp) (fun k hq hlt => hk.2 k hlt (hR9 k hq.2.2.2))) (fun _ _ => trivial), h.st.hb⟩,
    blk_kept h.b5 hk (Kd.N_ne h.no h.b5 (by decide)), blk_kept h.b6 hk (Kd.N_ne h.no h.b6 (by decide)), blk_kept h.b7 hk (Kd.N_ne h.no h.b7 (by decide)), hN, Kd.N_mono (Kd.N_kept (Kd.N_bound h.na) hk (fun k hq => hq.1.2.1)) (fun k hk => ⟨hk.1.1, ⟨hS k hk.2 hk.1.2.1, hk.1.2.2⟩⟩), Kd.N_mono (Kd.N_kept (Kd.N_bound h.nb) hk (fun k hq => hq.1.2.1)) (fun k hk => ⟨hk.1.1, ⟨hS k hk.2 hk.1.2.1, hk.1.2.2⟩⟩),
    Kd.R_mono (Kd.R_step (Kd.R_bound h.vn) (fun k hq hlt => hk.2 k hlt (hR9 k hq.2.2.2))) (fun k hq => hq.1), Below.trans h.bel hb0, h.kp.then_ hk (fun k hq => .inr (Kd.N_base h.no k hq.symm)), h.gl, h.gp⟩
theorem EInv.putA (h : EInv w W gm base As cs s vl vp l p Q gb5 gb6 gb7 X c5 c7 vn ns acc vl' vp' uO uA uB) (hk : Kept W W' (fun k => some k = uA.ownBlock)) (hb : Below w.heap.size W W') (hbs : base ≤ w.heap.size) {u' : Value} {t' : Tr} (hN : Kd.N k51 51 W' w.heap.size (fun k => ((Q k ∨ w.heap.size ≤ k) ∧ ¬ MS gm vl' vp' k ∧ ¬ X k) ∧ some k ≠ uO.ownBlock ∧ some k ≠ uB.ownBlock) u' t') (g : Gr W uA u') :
    EInv w W' gm base As cs s vl vp l p Q gb5 gb6 gb7 X c5 c7 vn ns ((acc.1.1, t', acc.1.2.2), acc.2) vl' vp' uO u' uB := by
  have hS : ∀ k, k < W.heap.size → some k ≠ uA.ownBlock → some k ≠ u'.ownBlock := fun k hlt hn e => by
    rcases g with g | ⟨q, g, hq⟩
    · exact hn (e.trans g)
    · rw [g] at e
      injection e with e
      omega
  have hR : ∀ k, (∃ q, q ∈ 38 :: k38.E ∧ ∃ c, W.heap[k]? = some (.cells c q (0, 0))) → ¬ some k = uA.ownBlock := fun k ⟨q, hq, c, hc⟩ => Kd.N_ne h.na hc (fun e => by subst e; revert hq; decide)
  have hR9 : ∀ k, (∃ q, q ∈ 9 :: Kd.string.E ∧ ∃ c, W.heap[k]? = some (.cells c q (0, 0))) → ¬ some k = uA.ownBlock := fun k ⟨q, hq, c, hc⟩ => Kd.N_ne h.na hc (fun e => by subst e; revert hq; decide)
  have hb0 : Below base W W' := ⟨hb.os, hb.tape, hb.output, hb.size, fun i hi => hb.block i (Nat.lt_of_lt_of_le hi hbs)⟩
  exact ⟨⟨blk_kept h.st.blk hk (Kd.N_ne h.na h.st.blk (by decide)), Kd.R_mono (Kd.R_step (Kd.R_bound h.st.hl) (fun k hq hlt => hk.2 k hlt (hR k hq.2.2.2))) (fun k hq => hq.1), Kd.R_mono (Kd.R_step (Kd.R_bound h.st.hp) (fun k hq hlt => hk.2 k hlt (hR9 k hq.2.2.2))) (fun _ _ => trivial), h.st.hb⟩,
    blk_kept h.b5 hk (Kd.N_ne h.na h.b5 (by decide)), blk_kept h.b6 hk (Kd.N_ne h.na h.b6 (by decide)), blk_kept h.b7 hk (Kd.N_ne h.na h.b7 (by decide)), Kd.N_mono (Kd.N_kept (Kd.N_bound h.no) hk (fun k hq => hq.1.2.1)) (fun k hk => ⟨hk.1.1, ⟨hS k hk.2 hk.1.2.1, hk.1.2.2⟩⟩), hN, Kd.N_mono (Kd.N_kept (Kd.N_bound h.nb) hk (fun k hq => hq.1.2.2)) (fun k hk => ⟨hk.1.1, ⟨hk.1.2.1, hS k hk.2 hk.1.2.2⟩⟩),
    Kd.R_mono (Kd.R_step (Kd.R_bound h.vn) (fun k hq hlt => hk.2 k hlt (hR9 k hq.2.2.2))) (fun k hq => hq.1), Below.trans h.bel hb0, h.kp.then_ hk (fun k hq => .inr (Kd.N_base h.na k hq.symm)), h.gl, h.gp⟩
theorem EInv.putB (h : EInv w W gm base As cs s vl vp l p Q gb5 gb6 gb7 X c5 c7 vn ns acc vl' vp' uO uA uB) (hk : Kept W W' (fun k => some k = uB.ownBlock)) (hb : Below w.heap.size W W') (hbs : base ≤ w.heap.size) {u' : Value} {t' : Tr} (hN : Kd.N k51 51 W' w.heap.size (fun k => ((Q k ∨ w.heap.size ≤ k) ∧ ¬ MS gm vl' vp' k ∧ ¬ X k) ∧ some k ≠ uO.ownBlock ∧ some k ≠ uA.ownBlock) u' t') (g : Gr W uB u') :
    EInv w W' gm base As cs s vl vp l p Q gb5 gb6 gb7 X c5 c7 vn ns ((acc.1.1, acc.1.2.1, t'), acc.2) vl' vp' uO uA u' := by
  have hS : ∀ k, k < W.heap.size → some k ≠ uB.ownBlock → some k ≠ u'.ownBlock := fun k hlt hn e => by
    rcases g with g | ⟨q, g, hq⟩
    · exact hn (e.trans g)
    · rw [g] at e
      injection e with e
      omega
  have hR : ∀ k, (∃ q, q ∈ 38 :: k38.E ∧ ∃ c, W.heap[k]? = some (.cells c q (0, 0))) → ¬ some k = uB.ownBlock := fun k ⟨q, hq, c, hc⟩ => Kd.N_ne h.nb hc (fun e => by subst e; revert hq; decide)
  have hR9 : ∀ k, (∃ q, q ∈ 9 :: Kd.string.E ∧ ∃ c, W.heap[k]? = some (.cells c q (0, 0))) → ¬ some k = uB.ownBlock := fun k ⟨q, hq, c, hc⟩ => Kd.N_ne h.nb hc (fun e => by subst e; revert hq; decide)
  have hb0 : Below base W W' := ⟨hb.os, hb.tape, hb.output, hb.size, fun i hi => hb.block i (Nat.lt_of_lt_of_le hi hbs)⟩
  exact ⟨⟨blk_kept h.st.blk hk (Kd.N_ne h.nb h.st.blk (by decide)), Kd.R_mono (Kd.R_step (Kd.R_bound h.st.hl) (fun k hq hlt => hk.2 k hlt (hR k hq.2.2.2))) (fun k hq => hq.1), Kd.R_mono (Kd.R_step (Kd.R_bound h.st.hp) (fun k hq hlt => hk.2 k hlt (hR9 k hq.2.2.2))) (fun _ _ => trivial), h.st.hb⟩,
    blk_kept h.b5 hk (Kd.N_ne h.nb h.b5 (by decide)), blk_kept h.b6 hk (Kd.N_ne h.nb h.b6 (by decide)), blk_kept h.b7 hk (Kd.N_ne h.nb h.b7 (by decide)), Kd.N_mono (Kd.N_kept (Kd.N_bound h.no) hk (fun k hq => hq.1.2.2)) (fun k hk => ⟨hk.1.1, ⟨hk.1.2.1, hS k hk.2 hk.1.2.2⟩⟩), Kd.N_mono (Kd.N_kept (Kd.N_bound h.na) hk (fun k hq => hq.1.2.2)) (fun k hk => ⟨hk.1.1, ⟨hk.1.2.1, hS k hk.2 hk.1.2.2⟩⟩), hN,
    Kd.R_mono (Kd.R_step (Kd.R_bound h.vn) (fun k hq hlt => hk.2 k hlt (hR9 k hq.2.2.2))) (fun k hq => hq.1), Below.trans h.bel hb0, h.kp.then_ hk (fun k hq => .inr (Kd.N_base h.nb k hq.symm)), h.gl, h.gp⟩
theorem EInv.below (h : EInv w W gm base As cs s vl vp l p Q gb5 gb6 gb7 X c5 c7 vn ns acc vl' vp' uO uA uB) (hbs : base ≤ W.heap.size) (hb : Below W.heap.size W W') : EInv w W' gm base As cs s vl vp l p Q gb5 gb6 gb7 X c5 c7 vn ns acc vl' vp' uO uA uB :=
  h.move (Kept.of_below hb _) ⟨hb.os, hb.tape, hb.output, hb.size, fun i hi => hb.block i (Nat.lt_of_lt_of_le hi hbs)⟩ (h.st.below hb) (.inl rfl) (.inl rfl)
end
theorem MSt.set7 {W : World} {g : Nat} {gm base : Nat} {As : Option Addr} {n cs : Nat} {vl vp : Value} {l : List Cf} {p : List ByteArray} (h : MSt W gm base As n cs vl vp l p) {c : Array Value} (hb : W.heap[g]? = some (.cells c 84 (0, 0))) (i : Nat) (u : Value) : MSt (W.setCell ⟨g, i, none⟩ u) gm base As n cs vl vp l p :=
  ⟨blk_far h.blk (blk_ne h.blk hb (by decide)) _, Kd.R_mono (Kd.R_far (p := ⟨g, i, none⟩) (Kd.R_types h.hl hb (by decide)) (fun _ hk => hk.2) _) (fun _ hk => hk.1), Kd.R_mono (Kd.R_far (p := ⟨g, i, none⟩) (Kd.R_types h.hp hb (by decide)) (fun _ hk => hk.2) _) (fun _ _ => trivial), h.hb⟩
theorem EInv.store7 {w W : World} {gm base : Nat} {As : Option Addr} {cs : Nat} {s : Sc} {vl vp : Value} {l : List Cf} {p : List ByteArray} {Q : Nat → Prop} {gb5 gb6 gb7 : Nat} {X : Nat → Prop} {c5 : Array Value} {vn : Value} {ns : List ByteArray} {acc : (Tr × Tr × Tr) × List Cf} {vl' vp' uO uA uB a0 a1 a2 : Value}
    (h : EInv w W gm base As cs s vl vp l p Q gb5 gb6 gb7 X c5 #[a0, a1, a2] vn ns acc vl' vp' uO uA uB) (hg : w.heap.size ≤ gb7) (hbs : base ≤ w.heap.size) (hX : X gb7) :
    EInv w (((W.setCell ⟨gb7, 0, none⟩ uO).setCell ⟨gb7, 1, none⟩ uA).setCell ⟨gb7, 2, none⟩ uB) gm base As cs s vl vp l p Q gb5 gb6 gb7 X c5 #[uO, uA, uB] vn ns acc vl' vp' uO uA uB := by
  have h0 := blk_put h.b7 0 uO rfl
  have h1 := blk_put h0 1 uA rfl
  have h2 := blk_put h1 2 uB rfl
  have hB : Below base w (((W.setCell ⟨gb7, 0, none⟩ uO).setCell ⟨gb7, 1, none⟩ uA).setCell ⟨gb7, 2, none⟩ uB) := ((h.bel.setCell (Nat.le_trans hbs hg) _).setCell (Nat.le_trans hbs hg) _).setCell (Nat.le_trans hbs hg) _
  have hk : Kept W (((W.setCell ⟨gb7, 0, none⟩ uO).setCell ⟨gb7, 1, none⟩ uA).setCell ⟨gb7, 2, none⟩ uB) (fun k => k = gb7) := (((Kept.refl W (fun k => k = gb7)).setCell (p := ⟨gb7, 0, none⟩) (.inl rfl) _).setCell (p := ⟨gb7, 1, none⟩) (.inl rfl) _).setCell (p := ⟨gb7, 2, none⟩) (.inl rfl) _
  exact ⟨((h.st.set7 h.b7 0 uO).set7 h0 1 uA).set7 h1 2 uB, blk_kept h.b5 hk (blk_ne h.b5 h.b7 (by decide)), blk_kept h.b6 hk (blk_ne h.b6 h.b7 (by decide)), h2, Kd.N_kept h.no hk (fun k hq e => hq.1.2.2 (e ▸ hX)), Kd.N_kept h.na hk (fun k hq e => hq.1.2.2 (e ▸ hX)), Kd.N_kept h.nb hk (fun k hq e => hq.1.2.2 (e ▸ hX)), Kd.R_step h.vn (fun k hq hlt => hk.2 k hlt (fun e => hq.2 (e ▸ hX))), hB, ((h.kp.setCell (p := ⟨gb7, 0, none⟩) (.inr hg) _).setCell (p := ⟨gb7, 1, none⟩) (.inr hg) _).setCell (p := ⟨gb7, 2, none⟩) (.inr hg) _, h.gl, h.gp⟩
end Go.Proofs.Ytainbaehfdhmbaa.PX
set_option linter.unusedVariables false
set_option linter.unusedSimpArgs false
namespace Go.Proofs.Ytainbaehfdhmbaa.PX
open Go.RowKit Go.Proofs.YtainbaehfdhmbaaW.PrintWords Go.Proofs.YtainbaehfdhmbaaW.PrintLast Go.Proofs.YtainbaehfdhmbaaW.PrintMore Go.Proofs.Ytainbaehfdhmbaa
section
variable {P : Program} {Q : Exit → Act → World → Prop} {ops : Array Oper}
theorem goesV_ {oi : Oper} {N : Option Tmp} {a : Act} {w : World} {K : Act → World → Prop} {f : FuncId} {fn : Func} {x : Operand} {bnd : Array Value} {xs : Array Operand} {ts : Array TypeId} (hf : P.funcs[f]? = some fn) (hname : (fn.name == "runtime.NumGoroutine") = false) (hb : fn.body.isSome = true) (args : Array Value)
    (hw : Region.wanted oi (yielded ops a.tmps) = true) (hN : oi.dst = N) (hop : oi.op = .call { callee := .value x, args := xs, argTypes := ts }) (hx : a.eval x = .func (.func f) bnd #[]) (hargs : bnd ++ xs.map a.eval = args)
    (h : Calls P f args w fun e w' => ∃ v, e = .returned v ∧ K (a.put N v) w') : if Region.wanted oi (yielded ops a.tmps) = true then Oper.wp P oi a w K Q else K (a.put N undef) w := by
  refine call_ f args hw hN ?_ h
  have he := enters_ hf hname hb args w
  unfold execOp
  simp [hop, resolve, Deferred.ofValue, invoke, hx, hargs, he]
end
end Go.Proofs.Ytainbaehfdhmbaa.PX
