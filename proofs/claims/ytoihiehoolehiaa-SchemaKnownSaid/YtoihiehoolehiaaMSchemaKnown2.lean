/- Texts on the way to 'SchemaKnown', one behind the other (part 2). -/
import Derived.Test.YtoihiehoolehiaaMSchemaKnown1
namespace Go.Proofs.Ytoihiehoolehiaa.PX
open Go.RowKit Go.Proofs.YtoihiehoolehiaaW.PrintWords Go.Proofs.YtoihiehoolehiaaW.PrintLast Go.Proofs.YtoihiehoolehiaaW.PrintMore
attribute [local go_sem] max2_int min2_int max_two min_two max_three min_three max_four min_four   
set_option linter.unusedVariables false
set_option linter.unusedSimpArgs false
attribute [local go_sem] run_field_87_0
def names_Both.j0:Nat→Bool→Bool→List ByteArray→Bool→List ByteArray→List ByteArray→List ByteArray→Option (Bool × List ByteArray)
 | 0,_,_,_,_,_,_,_=>none
 | k+1,x13,x524000,x524001,x525000,x525001,x533000,x534000=>if x13=true then ((names_set_string_with.f x533000 x534000).bind fun t534=>(some (true,t534))) else (if x524000=true then ((names_set_string_only.f k x534000 x533000 false).bind fun t537=>(some (false,t537))) else (if x525000=true then ((names_set_string_only.f k x533000 x534000 false).bind fun t540=>(some (false,t540))) else ((names_set_string_only.f k x533000 x534000 true).bind fun t543=>(some (false,t543)))))
def names_Both.f (k:Nat) (a0_0:Bool) (l0_1:List ByteArray) (a1_0:Bool) (l1_1:List ByteArray):Option (Bool × List ByteArray):=(names_of_string.f l0_1).bind fun t526=>((names_of_string.f l1_1).bind fun t529=>(if a0_0=true then (names_Both.j0 k a1_0 a0_0 l0_1 a1_0 l1_1 t526 t529) else (names_Both.j0 k false a0_0 l0_1 a1_0 l1_1 t526 t529)))
theorem names_Both.mono_l:∀ k,(∀ y0 y1 y2 y3 y4 y5 y6,LeO (names_Both.j0 k y0 y1 y2 y3 y4 y5 y6) (names_Both.j0 (k+1) y0 y1 y2 y3 y4 y5 y6))
 | 0=>fun _ _ _ _ _ _ _ r h=>by simp [names_Both.j0] at h
 | k+1=>by
  have ih0:=names_Both.mono_l k
  ·intro y0 y1 y2 y3 y4 y5 y6
   unfold names_Both.j0
   repeat' first
   | (with_reducible exact ih0 _ _ _ _ _ _ _)
   | (with_reducible exact names_set_string_only.mono _ _ _ _)
   | (with_reducible exact LeO.refl _)
   | (with_reducible exact LeO.none _)
   | (with_reducible refine LeO.ite ?_ ?_)
   | (with_reducible refine LeO.bind ?_ (fun _=>?_))
   | exact ih0 _ _ _ _ _ _ _
   | exact names_set_string_only.mono _ _ _ _
   | exact LeO.none _
   | refine LeO.ite ?_ ?_
   | refine LeO.bind ?_ (fun _=>?_)
theorem names_Both.mono:∀ a0 a1 a2 a3 k,LeO (names_Both.f k a0 a1 a2 a3) (names_Both.f (k+1) a0 a1 a2 a3):=by
 intro a0 a1 a2 a3 k
 have ih0:=names_Both.mono_l k
 unfold names_Both.f
 repeat' first
   | (with_reducible exact ih0 _ _ _ _ _ _ _)
   | (with_reducible exact names_set_string_only.mono _ _ _ _)
   | (with_reducible exact LeO.refl _)
   | (with_reducible exact LeO.none _)
   | (with_reducible refine LeO.ite ?_ ?_)
   | (with_reducible refine LeO.bind ?_ (fun _=>?_))
   | exact ih0 _ _ _ _ _ _ _
   | exact names_set_string_only.mono _ _ _ _
   | exact LeO.none _
   | refine LeO.ite ?_ ?_
   | refine LeO.bind ?_ (fun _=>?_)
def names_Both.T1:Bool × List (List Nat × List Nat):=(true,[([],[]),([0],[0]),([1],[1]),([],[]),([3],[3]),([4,2],[4]),([],[]),([],[]),([6,2,5,0,1,2,6,7],[2,6]),([7,5,8,0,1,2,3,4,5,6,7,8],[5,7])])
def names_Both.B1:List Nat:=[0,1,3,0,8,31,0,0,255,511]
theorem names_Both.tab1:rtab .any (opsOf Try.f49 1)=names_Both.T1:=by kernel_rfl
theorem names_Both.bits1:waitsOk names_Both.T1.2 names_Both.B1=true:=by kernel_rfl
set_option maxHeartbeats 8000000 in
set_option maxRecDepth 100000 in
theorem names_Both.calls (k:Nat) (a0_0:Bool) (A0_1:Option Addr) (c0_1:Nat) (l0_1:List ByteArray) (a1_0:Bool) (A1_1:Option Addr) (c1_1:Nat) (l1_1:List ByteArray) (r1:Bool) (r2:List ByteArray) (w:World) (hr0_1:Kd.C Kd.string w A0_1 l0_1.length l0_1) (hc0_1:l0_1.length≤c0_1) (hr1_1:Kd.C Kd.string w A1_1 l1_1.length l1_1) (hc1_1:l1_1.length≤c1_1) (h:names_Both.f k a0_0 l0_1 a1_0 l1_1=some (r1,r2)) :
  Calls Try.prog 49 #[.agg #[.bool a0_0,.slice A0_1 l0_1.length c0_1],.agg #[.bool a1_0,.slice A1_1 l1_1.length c1_1]] w fun e w'=>∃ v1_:Value,e=.returned (.agg #[.bool r1,v1_])∧Kd.R Kd.string 9 w' w.heap.size (fun _=>True) v1_ r2∧Below w.heap.size w w':=by
 have hu38:=Try.underlying38
 have hu87:=Try.underlying87
 have HR0_1:=Aside0.mk hr0_1
 have HC0_1:=Aside0.mk hc0_1
 clear hr0_1 hc0_1
 have HR1_1:=Aside0.mk hr1_1
 have HC1_1:=Aside0.mk hc1_1
 clear hr1_1 hc1_1
 have HB:=Aside0.mk (Below.refl w.heap.size w)
 have H:((names_of_string.f l0_1).bind fun t526=>((names_of_string.f l1_1).bind fun t529=>(if a0_0=true then (names_Both.j0 k a1_0 a0_0 l0_1 a1_0 l1_1 t526 t529) else (names_Both.j0 k false a0_0 l0_1 a1_0 l1_1 t526 t529))))=some (r1,r2):=h
 clear h
 replace H:=Option.bind_eq_some_iff.mp H
 obtain ⟨t526,A30,H⟩:=H
 replace H:((names_of_string.f l1_1).bind fun t529=>(if a0_0=true then (names_Both.j0 k a1_0 a0_0 l0_1 a1_0 l1_1 t526 t529) else (names_Both.j0 k false a0_0 l0_1 a1_0 l1_1 t526 t529)))=some (r1,r2):=H
 have A3:=Aside0.mk A30
 clear A30
 replace H:=Option.bind_eq_some_iff.mp H
 obtain ⟨t529,A40,H⟩:=H
 replace H:(if a0_0=true then (names_Both.j0 k a1_0 a0_0 l0_1 a1_0 l1_1 t526 t529) else (names_Both.j0 k false a0_0 l0_1 a1_0 l1_1 t526 t529))=some (r1,r2):=H
 have A4:=Aside0.mk A40
 clear A40
 have HC5:=Aside0.mk H
 clear H
 go_enter Try.func49,Try.ntmps49
 try go_wp2_with (first|((with_reducible refine gate_dst (N:=2) rfl ?_);refine box_event ?hg (N:=2) ?hd (cs:=#[.bool a0_0,.slice A0_1 l0_1.length c0_1]) (t:=38) ?hr ?_;(case hd=>rfl);(case hg=>rfl);(case hr=>first|(go_simp;done)|(go_simp;rfl));intro gb523 hg w6 hbox hb;have n0_:=Aside0.mk (below_step (by repeat (first|(with_reducible first|exact HB.out|apply bA_|apply bN_|apply bD_)|exact HB.out)) hb);have n1_:=Aside0.mk (hbox);have n2_:=Aside0.mk ((by rw [hg];exact (below_size (by repeat (first|(with_reducible first|exact HB.out|apply bA_|apply bN_|apply bD_)|exact HB.out))):w.heap.size≤gb523));have n3_:=Aside0.mk ((by rw [hg];exact (below_size (by repeat (first|(with_reducible first|exact HB.out|apply bA_|apply bN_|apply bD_)|exact HB.out))):w.heap.size≤gb523));clear HB;have HB:=n0_;have BK523:=n1_;have GW523:=n2_;have GE523:=n3_;clear n0_ n1_ n2_ n3_;clear hb hbox hg)|((with_reducible refine gate_dst (N:=3) rfl ?_);refine box_event ?hg (N:=3) ?hd (cs:=#[.bool a1_0,.slice A1_1 l1_1.length c1_1]) (t:=38) ?hr ?_;(case hd=>rfl);(case hg=>rfl);(case hr=>first|(go_simp;done)|(go_simp;rfl));intro gb524 hg w7 hbox hb;have n0_:=Aside0.mk (blk_below (g:=gb523) (o:=.cells #[.bool a0_0,.slice A0_1 l0_1.length c0_1] 38 (0,0)) (by (with_reducible repeat (first|refine blk_drewN ?_ _|refine blk_drew ?_|refine blk_alloc ?_ _));exact BK523.out) hb);have n1_:=Aside0.mk (below_step (by repeat (first|(with_reducible first|exact HB.out|apply bA_|apply bN_|apply bD_|refine below_set ?_ GE523.out)|exact HB.out)) hb);have n2_:=Aside0.mk (hbox);have n3_:=Aside0.mk ((by rw [hg];exact (below_size (by repeat (first|(with_reducible first|exact HB.out|apply bA_|apply bN_|apply bD_|refine below_set ?_ GE523.out)|exact HB.out))):w.heap.size≤gb524));have n4_:=Aside0.mk ((by rw [hg];exact (below_size (by repeat (first|(with_reducible first|exact HB.out|apply bA_|apply bN_|apply bD_|refine below_set ?_ GE523.out)|exact HB.out))):w.heap.size≤gb524));have n5_:=Aside0.mk ((by rw [hg];exact Nat.ne_of_lt (blk_lt (g:=gb523) (o:=.cells #[.bool a0_0,.slice A0_1 l0_1.length c0_1] 38 (0,0)) (by (with_reducible repeat (first|refine blk_drewN ?_ _|refine blk_drew ?_|refine blk_alloc ?_ _));exact BK523.out)):gb523≠gb524));have n6_:=Aside0.mk ((by rw [hg];exact Nat.ne_of_gt (blk_lt (g:=gb523) (o:=.cells #[.bool a0_0,.slice A0_1 l0_1.length c0_1] 38 (0,0)) (by (with_reducible repeat (first|refine blk_drewN ?_ _|refine blk_drew ?_|refine blk_alloc ?_ _));exact BK523.out)):gb524≠gb523));clear BK523;clear HB;have BK523:=n0_;have HB:=n1_;have BK524:=n2_;have GW524:=n3_;have GE524:=n4_;have NB523_524:=n5_;have NB524_523:=n6_;clear n0_ n1_ n2_ n3_ n4_ n5_ n6_;clear hb hbox hg)|((with_reducible refine gate_dst (N:=4) rfl ?_);refine box_event ?hg (N:=4) ?hd (cs:=#[.bool false,.slice none 0 0]) (t:=38) ?hr ?_;(case hd=>rfl);(case hg=>rfl);(case hr=>first|(go_simp;done)|(go_simp;rfl));intro gb525 hg w8 hbox hb;have n0_:=Aside0.mk (blk_below (g:=gb523) (o:=.cells #[.bool a0_0,.slice A0_1 l0_1.length c0_1] 38 (0,0)) (by (with_reducible repeat (first|refine blk_drewN ?_ _|refine blk_drew ?_|refine blk_alloc ?_ _));exact BK523.out) hb);have n1_:=Aside0.mk (blk_below (g:=gb524) (o:=.cells #[.bool a1_0,.slice A1_1 l1_1.length c1_1] 38 (0,0)) (by (with_reducible repeat (first|refine blk_drewN ?_ _|refine blk_drew ?_|refine blk_alloc ?_ _));exact BK524.out) hb);have n2_:=Aside0.mk (below_step (by repeat (first|(with_reducible first|exact HB.out|apply bA_|apply bN_|apply bD_|refine below_set ?_ GE523.out|refine below_set ?_ GE524.out)|exact HB.out)) hb);have n3_:=Aside0.mk (hbox);have n4_:=Aside0.mk ((by rw [hg];exact (below_size (by repeat (first|(with_reducible first|exact HB.out|apply bA_|apply bN_|apply bD_|refine below_set ?_ GE523.out|refine below_set ?_ GE524.out)|exact HB.out))):w.heap.size≤gb525));have n5_:=Aside0.mk ((by rw [hg];exact (below_size (by repeat (first|(with_reducible first|exact HB.out|apply bA_|apply bN_|apply bD_|refine below_set ?_ GE523.out|refine below_set ?_ GE524.out)|exact HB.out))):w.heap.size≤gb525));have n6_:=Aside0.mk ((by rw [hg];exact Nat.ne_of_lt (blk_lt (g:=gb523) (o:=.cells #[.bool a0_0,.slice A0_1 l0_1.length c0_1] 38 (0,0)) (by (with_reducible repeat (first|refine blk_drewN ?_ _|refine blk_drew ?_|refine blk_alloc ?_ _));exact BK523.out)):gb523≠gb525));have n7_:=Aside0.mk ((by rw [hg];exact Nat.ne_of_gt (blk_lt (g:=gb523) (o:=.cells #[.bool a0_0,.slice A0_1 l0_1.length c0_1] 38 (0,0)) (by (with_reducible repeat (first|refine blk_drewN ?_ _|refine blk_drew ?_|refine blk_alloc ?_ _));exact BK523.out)):gb525≠gb523));have n8_:=Aside0.mk ((by rw [hg];exact Nat.ne_of_lt (blk_lt (g:=gb524) (o:=.cells #[.bool a1_0,.slice A1_1 l1_1.length c1_1] 38 (0,0)) (by (with_reducible repeat (first|refine blk_drewN ?_ _|refine blk_drew ?_|refine blk_alloc ?_ _));exact BK524.out)):gb524≠gb525));have n9_:=Aside0.mk ((by rw [hg];exact Nat.ne_of_gt (blk_lt (g:=gb524) (o:=.cells #[.bool a1_0,.slice A1_1 l1_1.length c1_1] 38 (0,0)) (by (with_reducible repeat (first|refine blk_drewN ?_ _|refine blk_drew ?_|refine blk_alloc ?_ _));exact BK524.out)):gb525≠gb524));clear BK523;clear BK524;clear HB;have BK523:=n0_;have BK524:=n1_;have HB:=n2_;have BK525:=n3_;have GW525:=n4_;have GE525:=n5_;have NB523_525:=n6_;have NB525_523:=n7_;have NB524_525:=n8_;have NB525_524:=n9_;clear n0_ n1_ n2_ n3_ n4_ n5_ n6_ n7_ n8_ n9_;clear hb hbox hg))
 have n0_:=Aside0.mk (blk_drew BK523.out)
 have n1_:=Aside0.mk (blk_drew BK524.out)
 have n2_:=Aside0.mk (blk_drew BK525.out)
 have n3_:=Aside0.mk (bD_ HB.out)
 clear BK523
 clear BK524
 clear BK525
 clear HB
 have BK523:=n0_
 have BK524:=n1_
 have BK525:=n2_
 have HB:=n3_
 clear n0_ n1_ n2_ n3_
 refine start_ (n:=10) (S:=fun w'=>w'.cell? ⟨gb523,0,none⟩=some (.bool a0_0)∧w'.cell? ⟨gb523,1,none⟩=some (.slice A0_1 l0_1.length c0_1)∧w'.cell? ⟨gb524,0,none⟩=some (.bool a1_0)∧w'.cell? ⟨gb524,1,none⟩=some (.slice A1_1 l1_1.length c1_1)) (ds:=[]) #[false,false,false,false,false,false,false,false,false,false] (by kernel_rfl) rfl rfl ⟨(blk_cell BK523.out 0).trans rfl,(blk_cell BK523.out 1).trans rfl,(blk_cell BK524.out 0).trans rfl,(blk_cell BK524.out 1).trans rfl⟩ (fun hHeld=>?_);refine with_tabW names_Both.tab1 names_Both.bits1 (fun HT_ HW_=>?_)
 generalize w8.drew=w9 at BK523 BK524 BK525 HB hHeld ⊢
 refine pure_ (i:=0) (N:=some 7) (v:=?_) (a':=?_) #[true,false,false,false,false,false,false,false,false,false] rfl rfl (any_of HT_.out (by kernel_rfl)) (fun _ _ _ h=>h) (Or.inl ⟨by rfl,?_⟩) ?_ ?_
 rotate_left
 ·intro w'
  go_simp
  with_reducible rfl
 rotate_left
 ·simp only [Act.put,List.setIfInBounds_toArray,List.set_cons_zero,List.set_cons_succ,i64_w,i32_w]
  rfl
 refine pure_ (i:=3) (N:=some 10) (v:=?_) (a':=?_) #[true,false,false,true,false,false,false,false,false,false] rfl rfl (any_of HT_.out (by kernel_rfl)) (fun _ _ _ h=>h) (Or.inl ⟨by rfl,?_⟩) ?_ ?_
 rotate_left
 ·intro w'
  go_simp
  with_reducible rfl
 rotate_left
 ·simp only [Act.put,List.setIfInBounds_toArray,List.set_cons_zero,List.set_cons_succ,i64_w,i32_w]
  rfl
 refine take_ (i:=1) (N:=some 8) (v:=?_) (a':=?_) #[true,true,false,true,false,false,false,false,false,false] rfl rfl (take_ofW HT_.out HW_.out (by kernel_rfl)) (fun _ _ _ h=>h) (Or.inl ⟨by rfl,?_⟩) hHeld ?_ ?_
 rotate_left
 ·rintro w' ⟨s0,s1,s2,s3⟩
  go_simp
  with_reducible rfl
 rotate_left
 ·simp only [Act.put,List.setIfInBounds_toArray,List.set_cons_zero,List.set_cons_succ,i64_w,i32_w]
  rfl
 refine take_ (i:=4) (N:=some 11) (v:=?_) (a':=?_) #[true,true,false,true,true,false,false,false,false,false] rfl rfl (take_ofW HT_.out HW_.out (by kernel_rfl)) (fun _ _ _ h=>h) (Or.inl ⟨by rfl,?_⟩) hHeld ?_ ?_
 rotate_left
 ·rintro w' ⟨s0,s1,s2,s3⟩
  go_simp
  with_reducible rfl
 rotate_left
 ·simp only [Act.put,List.setIfInBounds_toArray,List.set_cons_zero,List.set_cons_succ,i64_w,i32_w]
  rfl
 refine join_ (σ:=Value × Value × Nat × Nat) 2 #[true,true,true,true,true,true,true,true,false,false] (fun s_=>[(9,.agg #[s_.1]),(12,.agg #[s_.2.1]),(5,.pointer (some ⟨s_.2.2.1,0,none⟩)),(6,.pointer (some ⟨s_.2.2.2,0,none⟩))]) (fun s_ w'=>(w'.cell? ⟨gb523,0,none⟩=some (.bool a0_0)∧w'.cell? ⟨gb523,1,none⟩=some (.slice A0_1 l0_1.length c0_1)∧w'.cell? ⟨gb524,0,none⟩=some (.bool a1_0)∧w'.cell? ⟨gb524,1,none⟩=some (.slice A1_1 l1_1.length c1_1))∧(Kd.R Kd.string 9 w' w.heap.size (fun k_=>some k_≠(s_.2.1:Value).ownBlock) s_.1 t526)∧(Kd.R Kd.string 9 w' w.heap.size (fun k_=>some k_≠(s_.1:Value).ownBlock) s_.2.1 t529)∧(w'.heap[gb523]? = some (.cells #[.bool a0_0,.slice A0_1 l0_1.length c0_1] 38 (0,0)))∧(w'.heap[gb524]? = some (.cells #[.bool a1_0,.slice A1_1 l1_1.length c1_1] 38 (0,0)))∧(w'.heap[gb525]? = some (.cells #[.bool false,.slice none 0 0] 38 (0,0)))∧(w'.heap[s_.2.2.1]? = some (.cells #[.slice none 0 0] 87 (0,0)))∧(w'.heap[s_.2.2.2]? = some (.cells #[.slice none 0 0] 87 (0,0)))∧(w.heap.size≤s_.2.2.1)∧(w.heap.size≤s_.2.2.1)∧(gb523≠s_.2.2.1)∧(s_.2.2.1≠gb523)∧(gb524≠s_.2.2.1)∧(s_.2.2.1≠gb524)∧(gb525≠s_.2.2.1)∧(s_.2.2.1≠gb525)∧(s_.2.2.2≠s_.2.2.1)∧(s_.2.2.1≠s_.2.2.2)∧(w.heap.size≤s_.2.2.2)∧(w.heap.size≤s_.2.2.2)∧(gb523≠s_.2.2.2)∧(s_.2.2.2≠gb523)∧(gb524≠s_.2.2.2)∧(s_.2.2.2≠gb524)∧(gb525≠s_.2.2.2)∧(s_.2.2.2≠gb525)∧(Below w.heap.size w w')) ?_ ?_
 rotate_left
 ·intro hJ2_5_6_7
  refine join_ (σ:=Value × Value × Nat) 3 #[true,true,true,true,true,true,true,false,false,false] (fun s_=>[(9,.agg #[s_.1]),(12,.agg #[s_.2.1]),(5,.pointer (some ⟨s_.2.2,0,none⟩))]) (fun s_ w'=>(w'.cell? ⟨gb523,0,none⟩=some (.bool a0_0)∧w'.cell? ⟨gb523,1,none⟩=some (.slice A0_1 l0_1.length c0_1)∧w'.cell? ⟨gb524,0,none⟩=some (.bool a1_0)∧w'.cell? ⟨gb524,1,none⟩=some (.slice A1_1 l1_1.length c1_1))∧(Kd.R Kd.string 9 w' w.heap.size (fun k_=>some k_≠(s_.2.1:Value).ownBlock) s_.1 t526)∧(Kd.R Kd.string 9 w' w.heap.size (fun k_=>some k_≠(s_.1:Value).ownBlock) s_.2.1 t529)∧(w'.heap[gb523]? = some (.cells #[.bool a0_0,.slice A0_1 l0_1.length c0_1] 38 (0,0)))∧(w'.heap[gb524]? = some (.cells #[.bool a1_0,.slice A1_1 l1_1.length c1_1] 38 (0,0)))∧(w'.heap[gb525]? = some (.cells #[.bool false,.slice none 0 0] 38 (0,0)))∧(w'.heap[s_.2.2]? = some (.cells #[.slice none 0 0] 87 (0,0)))∧(w.heap.size≤s_.2.2)∧(w.heap.size≤s_.2.2)∧(gb523≠s_.2.2)∧(s_.2.2≠gb523)∧(gb524≠s_.2.2)∧(s_.2.2≠gb524)∧(gb525≠s_.2.2)∧(s_.2.2≠gb525)∧(Below w.heap.size w w')) ?_ ?_
  rotate_left
  ·intro hJ2_5_6
   refine join_ (σ:=Value × Value × Nat) 3 #[true,true,true,true,true,true,false,true,false,false] (fun s_=>[(9,.agg #[s_.1]),(12,.agg #[s_.2.1]),(6,.pointer (some ⟨s_.2.2,0,none⟩))]) (fun s_ w'=>(w'.cell? ⟨gb523,0,none⟩=some (.bool a0_0)∧w'.cell? ⟨gb523,1,none⟩=some (.slice A0_1 l0_1.length c0_1)∧w'.cell? ⟨gb524,0,none⟩=some (.bool a1_0)∧w'.cell? ⟨gb524,1,none⟩=some (.slice A1_1 l1_1.length c1_1))∧(Kd.R Kd.string 9 w' w.heap.size (fun k_=>some k_≠(s_.2.1:Value).ownBlock) s_.1 t526)∧(Kd.R Kd.string 9 w' w.heap.size (fun k_=>some k_≠(s_.1:Value).ownBlock) s_.2.1 t529)∧(w'.heap[gb523]? = some (.cells #[.bool a0_0,.slice A0_1 l0_1.length c0_1] 38 (0,0)))∧(w'.heap[gb524]? = some (.cells #[.bool a1_0,.slice A1_1 l1_1.length c1_1] 38 (0,0)))∧(w'.heap[gb525]? = some (.cells #[.bool false,.slice none 0 0] 38 (0,0)))∧(w'.heap[s_.2.2]? = some (.cells #[.slice none 0 0] 87 (0,0)))∧(w.heap.size≤s_.2.2)∧(w.heap.size≤s_.2.2)∧(gb523≠s_.2.2)∧(s_.2.2≠gb523)∧(gb524≠s_.2.2)∧(s_.2.2≠gb524)∧(gb525≠s_.2.2)∧(s_.2.2≠gb525)∧(Below w.heap.size w w')) ?_ ?_
   rotate_left
   ·intro hJ2_5_7
    refine join_ (σ:=Value × Nat × Nat) 3 #[true,true,true,true,true,false,true,true,false,false] (fun s_=>[(9,.agg #[s_.1]),(5,.pointer (some ⟨s_.2.1,0,none⟩)),(6,.pointer (some ⟨s_.2.2,0,none⟩))]) (fun s_ w'=>(w'.cell? ⟨gb523,0,none⟩=some (.bool a0_0)∧w'.cell? ⟨gb523,1,none⟩=some (.slice A0_1 l0_1.length c0_1)∧w'.cell? ⟨gb524,0,none⟩=some (.bool a1_0)∧w'.cell? ⟨gb524,1,none⟩=some (.slice A1_1 l1_1.length c1_1))∧(Kd.R Kd.string 9 w' w.heap.size (fun _=>True) s_.1 t526)∧(w'.heap[gb523]? = some (.cells #[.bool a0_0,.slice A0_1 l0_1.length c0_1] 38 (0,0)))∧(w'.heap[gb524]? = some (.cells #[.bool a1_0,.slice A1_1 l1_1.length c1_1] 38 (0,0)))∧(w'.heap[gb525]? = some (.cells #[.bool false,.slice none 0 0] 38 (0,0)))∧(w'.heap[s_.2.1]? = some (.cells #[.slice none 0 0] 87 (0,0)))∧(w'.heap[s_.2.2]? = some (.cells #[.slice none 0 0] 87 (0,0)))∧(w.heap.size≤s_.2.1)∧(w.heap.size≤s_.2.1)∧(gb523≠s_.2.1)∧(s_.2.1≠gb523)∧(gb524≠s_.2.1)∧(s_.2.1≠gb524)∧(gb525≠s_.2.1)∧(s_.2.1≠gb525)∧(s_.2.2≠s_.2.1)∧(s_.2.1≠s_.2.2)∧(w.heap.size≤s_.2.2)∧(w.heap.size≤s_.2.2)∧(gb523≠s_.2.2)∧(s_.2.2≠gb523)∧(gb524≠s_.2.2)∧(s_.2.2≠gb524)∧(gb525≠s_.2.2)∧(s_.2.2≠gb525)∧(Below w.heap.size w w')) ?_ ?_
    rotate_left
    ·intro hJ2_6_7
     refine join_ (σ:=Value × Value) 4 #[true,true,true,true,true,true,false,false,false,false] (fun s_=>[(9,.agg #[s_.1]),(12,.agg #[s_.2])]) (fun s_ w'=>(w'.cell? ⟨gb523,0,none⟩=some (.bool a0_0)∧w'.cell? ⟨gb523,1,none⟩=some (.slice A0_1 l0_1.length c0_1)∧w'.cell? ⟨gb524,0,none⟩=some (.bool a1_0)∧w'.cell? ⟨gb524,1,none⟩=some (.slice A1_1 l1_1.length c1_1))∧(Kd.R Kd.string 9 w' w.heap.size (fun k_=>some k_≠(s_.2:Value).ownBlock) s_.1 t526)∧(Kd.R Kd.string 9 w' w.heap.size (fun k_=>some k_≠(s_.1:Value).ownBlock) s_.2 t529)∧(w'.heap[gb523]? = some (.cells #[.bool a0_0,.slice A0_1 l0_1.length c0_1] 38 (0,0)))∧(w'.heap[gb524]? = some (.cells #[.bool a1_0,.slice A1_1 l1_1.length c1_1] 38 (0,0)))∧(w'.heap[gb525]? = some (.cells #[.bool false,.slice none 0 0] 38 (0,0)))∧(Below w.heap.size w w')) ?_ ?_
     rotate_left
     ·intro hJ2_5
      refine join_ (σ:=Value × Nat) 4 #[true,true,true,true,true,false,true,false,false,false] (fun s_=>[(9,.agg #[s_.1]),(5,.pointer (some ⟨s_.2,0,none⟩))]) (fun s_ w'=>(w'.cell? ⟨gb523,0,none⟩=some (.bool a0_0)∧w'.cell? ⟨gb523,1,none⟩=some (.slice A0_1 l0_1.length c0_1)∧w'.cell? ⟨gb524,0,none⟩=some (.bool a1_0)∧w'.cell? ⟨gb524,1,none⟩=some (.slice A1_1 l1_1.length c1_1))∧(Kd.R Kd.string 9 w' w.heap.size (fun _=>True) s_.1 t526)∧(w'.heap[gb523]? = some (.cells #[.bool a0_0,.slice A0_1 l0_1.length c0_1] 38 (0,0)))∧(w'.heap[gb524]? = some (.cells #[.bool a1_0,.slice A1_1 l1_1.length c1_1] 38 (0,0)))∧(w'.heap[gb525]? = some (.cells #[.bool false,.slice none 0 0] 38 (0,0)))∧(w'.heap[s_.2]? = some (.cells #[.slice none 0 0] 87 (0,0)))∧(w.heap.size≤s_.2)∧(w.heap.size≤s_.2)∧(gb523≠s_.2)∧(s_.2≠gb523)∧(gb524≠s_.2)∧(s_.2≠gb524)∧(gb525≠s_.2)∧(s_.2≠gb525)∧(Below w.heap.size w w')) ?_ ?_
      rotate_left
      ·intro hJ2_6
       refine join_ (σ:=Value × Nat) 4 #[true,true,true,true,true,false,false,true,false,false] (fun s_=>[(9,.agg #[s_.1]),(6,.pointer (some ⟨s_.2,0,none⟩))]) (fun s_ w'=>(w'.cell? ⟨gb523,0,none⟩=some (.bool a0_0)∧w'.cell? ⟨gb523,1,none⟩=some (.slice A0_1 l0_1.length c0_1)∧w'.cell? ⟨gb524,0,none⟩=some (.bool a1_0)∧w'.cell? ⟨gb524,1,none⟩=some (.slice A1_1 l1_1.length c1_1))∧(Kd.R Kd.string 9 w' w.heap.size (fun _=>True) s_.1 t526)∧(w'.heap[gb523]? = some (.cells #[.bool a0_0,.slice A0_1 l0_1.length c0_1] 38 (0,0)))∧(w'.heap[gb524]? = some (.cells #[.bool a1_0,.slice A1_1 l1_1.length c1_1] 38 (0,0)))∧(w'.heap[gb525]? = some (.cells #[.bool false,.slice none 0 0] 38 (0,0)))∧(w'.heap[s_.2]? = some (.cells #[.slice none 0 0] 87 (0,0)))∧(w.heap.size≤s_.2)∧(w.heap.size≤s_.2)∧(gb523≠s_.2)∧(s_.2≠gb523)∧(gb524≠s_.2)∧(s_.2≠gb524)∧(gb525≠s_.2)∧(s_.2≠gb525)∧(Below w.heap.size w w')) ?_ ?_
       rotate_left
       ·intro hJ2_7
        refine join_ (σ:=Nat × Nat) 4 #[true,true,false,true,true,false,true,true,false,false] (fun s_=>[(5,.pointer (some ⟨s_.1,0,none⟩)),(6,.pointer (some ⟨s_.2,0,none⟩))]) (fun s_ w'=>(w'.cell? ⟨gb523,0,none⟩=some (.bool a0_0)∧w'.cell? ⟨gb523,1,none⟩=some (.slice A0_1 l0_1.length c0_1)∧w'.cell? ⟨gb524,0,none⟩=some (.bool a1_0)∧w'.cell? ⟨gb524,1,none⟩=some (.slice A1_1 l1_1.length c1_1))∧(w'.heap[gb523]? = some (.cells #[.bool a0_0,.slice A0_1 l0_1.length c0_1] 38 (0,0)))∧(w'.heap[gb524]? = some (.cells #[.bool a1_0,.slice A1_1 l1_1.length c1_1] 38 (0,0)))∧(w'.heap[gb525]? = some (.cells #[.bool false,.slice none 0 0] 38 (0,0)))∧(w'.heap[s_.1]? = some (.cells #[.slice none 0 0] 87 (0,0)))∧(w'.heap[s_.2]? = some (.cells #[.slice none 0 0] 87 (0,0)))∧(w.heap.size≤s_.1)∧(w.heap.size≤s_.1)∧(gb523≠s_.1)∧(s_.1≠gb523)∧(gb524≠s_.1)∧(s_.1≠gb524)∧(gb525≠s_.1)∧(s_.1≠gb525)∧(s_.2≠s_.1)∧(s_.1≠s_.2)∧(w.heap.size≤s_.2)∧(w.heap.size≤s_.2)∧(gb523≠s_.2)∧(s_.2≠gb523)∧(gb524≠s_.2)∧(s_.2≠gb524)∧(gb525≠s_.2)∧(s_.2≠gb525)∧(Below w.heap.size w w')) ?_ ?_
        rotate_left
        ·intro hJ6_7
         refine join_ (σ:=Value) 5 #[true,true,true,true,true,false,false,false,false,false] (fun s_=>[(9,.agg #[s_])]) (fun s_ w'=>(w'.cell? ⟨gb523,0,none⟩=some (.bool a0_0)∧w'.cell? ⟨gb523,1,none⟩=some (.slice A0_1 l0_1.length c0_1)∧w'.cell? ⟨gb524,0,none⟩=some (.bool a1_0)∧w'.cell? ⟨gb524,1,none⟩=some (.slice A1_1 l1_1.length c1_1))∧(Kd.R Kd.string 9 w' w.heap.size (fun _=>True) s_ t526)∧(w'.heap[gb523]? = some (.cells #[.bool a0_0,.slice A0_1 l0_1.length c0_1] 38 (0,0)))∧(w'.heap[gb524]? = some (.cells #[.bool a1_0,.slice A1_1 l1_1.length c1_1] 38 (0,0)))∧(w'.heap[gb525]? = some (.cells #[.bool false,.slice none 0 0] 38 (0,0)))∧(Below w.heap.size w w')) ?_ ?_
         rotate_left
         ·intro hJ2
          refine join_ (σ:=Nat) 5 #[true,true,false,true,true,false,true,false,false,false] (fun s_=>[(5,.pointer (some ⟨s_,0,none⟩))]) (fun s_ w'=>(w'.cell? ⟨gb523,0,none⟩=some (.bool a0_0)∧w'.cell? ⟨gb523,1,none⟩=some (.slice A0_1 l0_1.length c0_1)∧w'.cell? ⟨gb524,0,none⟩=some (.bool a1_0)∧w'.cell? ⟨gb524,1,none⟩=some (.slice A1_1 l1_1.length c1_1))∧(w'.heap[gb523]? = some (.cells #[.bool a0_0,.slice A0_1 l0_1.length c0_1] 38 (0,0)))∧(w'.heap[gb524]? = some (.cells #[.bool a1_0,.slice A1_1 l1_1.length c1_1] 38 (0,0)))∧(w'.heap[gb525]? = some (.cells #[.bool false,.slice none 0 0] 38 (0,0)))∧(w'.heap[s_]? = some (.cells #[.slice none 0 0] 87 (0,0)))∧(w.heap.size≤s_)∧(w.heap.size≤s_)∧(gb523≠s_)∧(s_≠gb523)∧(gb524≠s_)∧(s_≠gb524)∧(gb525≠s_)∧(s_≠gb525)∧(Below w.heap.size w w')) ?_ ?_
          rotate_left
          ·intro hJ6
           refine join_ (σ:=Nat) 5 #[true,true,false,true,true,false,false,true,false,false] (fun s_=>[(6,.pointer (some ⟨s_,0,none⟩))]) (fun s_ w'=>(w'.cell? ⟨gb523,0,none⟩=some (.bool a0_0)∧w'.cell? ⟨gb523,1,none⟩=some (.slice A0_1 l0_1.length c0_1)∧w'.cell? ⟨gb524,0,none⟩=some (.bool a1_0)∧w'.cell? ⟨gb524,1,none⟩=some (.slice A1_1 l1_1.length c1_1))∧(w'.heap[gb523]? = some (.cells #[.bool a0_0,.slice A0_1 l0_1.length c0_1] 38 (0,0)))∧(w'.heap[gb524]? = some (.cells #[.bool a1_0,.slice A1_1 l1_1.length c1_1] 38 (0,0)))∧(w'.heap[gb525]? = some (.cells #[.bool false,.slice none 0 0] 38 (0,0)))∧(w'.heap[s_]? = some (.cells #[.slice none 0 0] 87 (0,0)))∧(w.heap.size≤s_)∧(w.heap.size≤s_)∧(gb523≠s_)∧(s_≠gb523)∧(gb524≠s_)∧(s_≠gb524)∧(gb525≠s_)∧(s_≠gb525)∧(Below w.heap.size w w')) ?_ ?_
           rotate_left
           ·intro hJ7
            refine three_ (i:=2) (j:=6) (k:=7) (Ni:=some 9) (Nj:=some 5) (Nk:=some 6) #[true,true,true,true,true,false,false,false,false,false] #[true,true,false,true,true,false,true,false,false,false] #[true,true,false,true,true,false,false,true,false,false] rfl rfl rfl rfl rfl rfl (three_of HT_.out (by kernel_rfl)) (by decide) (by decide) (by decide) (fun K hK=>?_) (fun K hK=>?_) (fun K hK=>?_)
            ·skip
             refine goes_ Try.func61 (by kernel_rfl) rfl #[.slice A0_1 l0_1.length c0_1] (by rfl) rfl rfl (by (try simp only [List.map_toArray,List.map_cons,List.map_nil]);first|done|rfl|(simp only [List.length_drop,List.length_take];rfl)) ?_
             with_reducible refine (names_of_string.calls _ _ l0_1 t526 _ ?side1 ?side2 A3.out).mono ?_
             (case side1=>repeat (first|exact (Kd.C_below HR0_1.out HB.out)|(with_reducible refine cA_ ?_ _)|(with_reducible refine cN_ ?_ _)|(with_reducible refine cD_ ?_)))
             (case side2=>exact HC0_1.out)
             rintro e w10 ⟨v527,rfl,ho0,hb⟩
             refine ⟨_,rfl,?_⟩
             have n0_:=Aside0.mk (Kd.R_lower ho0 (below_size (by repeat (first|(with_reducible first|exact HB.out|apply bA_|apply bN_|apply bD_|refine below_set ?_ GE523.out|refine below_set ?_ GE524.out|refine below_set ?_ GE525.out)|exact HB.out))))
             have n1_:=Aside0.mk (blk_below (g:=gb523) (o:=.cells #[.bool a0_0,.slice A0_1 l0_1.length c0_1] 38 (0,0)) (by (with_reducible repeat (first|refine blk_drewN ?_ _|refine blk_drew ?_|refine blk_alloc ?_ _));exact BK523.out) hb)
             have n2_:=Aside0.mk (blk_below (g:=gb524) (o:=.cells #[.bool a1_0,.slice A1_1 l1_1.length c1_1] 38 (0,0)) (by (with_reducible repeat (first|refine blk_drewN ?_ _|refine blk_drew ?_|refine blk_alloc ?_ _));exact BK524.out) hb)
             have n3_:=Aside0.mk (blk_below (g:=gb525) (o:=.cells #[.bool false,.slice none 0 0] 38 (0,0)) (by (with_reducible repeat (first|refine blk_drewN ?_ _|refine blk_drew ?_|refine blk_alloc ?_ _));exact BK525.out) hb)
             have n4_:=Aside0.mk (below_step (by repeat (first|(with_reducible first|exact HB.out|apply bA_|apply bN_|apply bD_|refine below_set ?_ GE523.out|refine below_set ?_ GE524.out|refine below_set ?_ GE525.out)|exact HB.out)) hb)
             clear BK523
             clear BK524
             clear BK525
             clear HB
             have HO528:=n0_
             have BK523:=n1_
             have BK524:=n2_
             have BK525:=n3_
             have HB:=n4_
             clear n0_ n1_ n2_ n3_ n4_
             (try clear hb)
             (try clear hb2)
             (try clear hk)
             (try clear hi)
             (try clear ho0)
             refine hK.out _ _ ⟨(blk_cell BK523.out 0).trans rfl,(blk_cell BK523.out 1).trans rfl,(blk_cell BK524.out 0).trans rfl,(blk_cell BK524.out 1).trans rfl⟩ (fun hHeld=>?_)
             clear hK K
             refine norm_ (a':=?_) ?_ ?_
             rotate_left
             ·show Act.put _ (some 9) _=_
              simp only [Act.put,List.setIfInBounds_toArray,List.set_cons_zero,List.set_cons_succ,i64_w,i32_w]
              rfl
             exact norm_ (by first|(simp only [putAll,Act.put,List.setIfInBounds_toArray,List.set_cons_zero,List.set_cons_succ];done)|(simp only [putAll,Act.put,List.setIfInBounds_toArray,List.set_cons_zero,List.set_cons_succ];rfl)) (hJ2 (v527) _ ⟨hHeld,(by (with_reducible repeat (first|apply rA_|apply rN_|apply rD_));exact HO528.out),(by (with_reducible repeat (first|refine blk_drewN ?_ _|refine blk_drew ?_|refine blk_alloc ?_ _));exact BK523.out),(by (with_reducible repeat (first|refine blk_drewN ?_ _|refine blk_drew ?_|refine blk_alloc ?_ _));exact BK524.out),(by (with_reducible repeat (first|refine blk_drewN ?_ _|refine blk_drew ?_|refine blk_alloc ?_ _));exact BK525.out),(by repeat (first|(with_reducible first|exact HB.out|apply bA_|apply bN_|apply bD_|refine below_set ?_ GE523.out|refine below_set ?_ GE524.out|refine below_set ?_ GE525.out)|exact HB.out))⟩)
            ·skip
             refine box_step ?hg (N:=5) ?hd (cs:=#[.slice none 0 0]) (t:=87) ?hr ?_;(case hd=>rfl);(case hg=>rfl);(case hr=>first|(go_simp;done)|(go_simp;rfl))
             intro gb532 hg w10 hbox hb
             have n0_:=Aside0.mk (blk_below (g:=gb523) (o:=.cells #[.bool a0_0,.slice A0_1 l0_1.length c0_1] 38 (0,0)) (by (with_reducible repeat (first|refine blk_drewN ?_ _|refine blk_drew ?_|refine blk_alloc ?_ _));exact BK523.out) hb)
             have n1_:=Aside0.mk (blk_below (g:=gb524) (o:=.cells #[.bool a1_0,.slice A1_1 l1_1.length c1_1] 38 (0,0)) (by (with_reducible repeat (first|refine blk_drewN ?_ _|refine blk_drew ?_|refine blk_alloc ?_ _));exact BK524.out) hb)
             have n2_:=Aside0.mk (blk_below (g:=gb525) (o:=.cells #[.bool false,.slice none 0 0] 38 (0,0)) (by (with_reducible repeat (first|refine blk_drewN ?_ _|refine blk_drew ?_|refine blk_alloc ?_ _));exact BK525.out) hb)
             have n3_:=Aside0.mk (below_step (by repeat (first|(with_reducible first|exact HB.out|apply bA_|apply bN_|apply bD_|refine below_set ?_ GE523.out|refine below_set ?_ GE524.out|refine below_set ?_ GE525.out)|exact HB.out)) hb)
             have n4_:=Aside0.mk (hbox)
             have n5_:=Aside0.mk ((by rw [hg];exact (below_size (by repeat (first|(with_reducible first|exact HB.out|apply bA_|apply bN_|apply bD_|refine below_set ?_ GE523.out|refine below_set ?_ GE524.out|refine below_set ?_ GE525.out)|exact HB.out))):w.heap.size≤gb532))
             have n6_:=Aside0.mk ((by rw [hg];exact (below_size (by repeat (first|(with_reducible first|exact HB.out|apply bA_|apply bN_|apply bD_|refine below_set ?_ GE523.out|refine below_set ?_ GE524.out|refine below_set ?_ GE525.out)|exact HB.out))):w.heap.size≤gb532))
             have n7_:=Aside0.mk ((by rw [hg];exact Nat.ne_of_lt (blk_lt (g:=gb523) (o:=.cells #[.bool a0_0,.slice A0_1 l0_1.length c0_1] 38 (0,0)) (by (with_reducible repeat (first|refine blk_drewN ?_ _|refine blk_drew ?_|refine blk_alloc ?_ _));exact BK523.out)):gb523≠gb532))
             have n8_:=Aside0.mk ((by rw [hg];exact Nat.ne_of_gt (blk_lt (g:=gb523) (o:=.cells #[.bool a0_0,.slice A0_1 l0_1.length c0_1] 38 (0,0)) (by (with_reducible repeat (first|refine blk_drewN ?_ _|refine blk_drew ?_|refine blk_alloc ?_ _));exact BK523.out)):gb532≠gb523))
             have n9_:=Aside0.mk ((by rw [hg];exact Nat.ne_of_lt (blk_lt (g:=gb524) (o:=.cells #[.bool a1_0,.slice A1_1 l1_1.length c1_1] 38 (0,0)) (by (with_reducible repeat (first|refine blk_drewN ?_ _|refine blk_drew ?_|refine blk_alloc ?_ _));exact BK524.out)):gb524≠gb532))
             have n10_:=Aside0.mk ((by rw [hg];exact Nat.ne_of_gt (blk_lt (g:=gb524) (o:=.cells #[.bool a1_0,.slice A1_1 l1_1.length c1_1] 38 (0,0)) (by (with_reducible repeat (first|refine blk_drewN ?_ _|refine blk_drew ?_|refine blk_alloc ?_ _));exact BK524.out)):gb532≠gb524))
             have n11_:=Aside0.mk ((by rw [hg];exact Nat.ne_of_lt (blk_lt (g:=gb525) (o:=.cells #[.bool false,.slice none 0 0] 38 (0,0)) (by (with_reducible repeat (first|refine blk_drewN ?_ _|refine blk_drew ?_|refine blk_alloc ?_ _));exact BK525.out)):gb525≠gb532))
             have n12_:=Aside0.mk ((by rw [hg];exact Nat.ne_of_gt (blk_lt (g:=gb525) (o:=.cells #[.bool false,.slice none 0 0] 38 (0,0)) (by (with_reducible repeat (first|refine blk_drewN ?_ _|refine blk_drew ?_|refine blk_alloc ?_ _));exact BK525.out)):gb532≠gb525))
             clear BK523
             clear BK524
             clear BK525
             clear HB
             have BK523:=n0_
             have BK524:=n1_
             have BK525:=n2_
             have HB:=n3_
             have BK532:=n4_
             have GW532:=n5_
             have GE532:=n6_
             have NB523_532:=n7_
             have NB532_523:=n8_
             have NB524_532:=n9_
             have NB532_524:=n10_
             have NB525_532:=n11_
             have NB532_525:=n12_
             clear n0_ n1_ n2_ n3_ n4_ n5_ n6_ n7_ n8_ n9_ n10_ n11_ n12_
             clear hb hbox hg
             refine hK.out _ _ ⟨(blk_cell BK523.out 0).trans rfl,(blk_cell BK523.out 1).trans rfl,(blk_cell BK524.out 0).trans rfl,(blk_cell BK524.out 1).trans rfl⟩ (fun hHeld=>?_)
             clear hK K
             refine norm_ (a':=?_) ?_ ?_
             rotate_left
             ·show Act.put _ (some 5) _=_
              simp only [Act.put,List.setIfInBounds_toArray,List.set_cons_zero,List.set_cons_succ,i64_w,i32_w]
              rfl
             exact norm_ (by first|(simp only [putAll,Act.put,List.setIfInBounds_toArray,List.set_cons_zero,List.set_cons_succ];done)|(simp only [putAll,Act.put,List.setIfInBounds_toArray,List.set_cons_zero,List.set_cons_succ];rfl)) (hJ6 (gb532) _ ⟨hHeld,(by (with_reducible repeat (first|refine blk_drewN ?_ _|refine blk_drew ?_|refine blk_alloc ?_ _));exact BK523.out),(by (with_reducible repeat (first|refine blk_drewN ?_ _|refine blk_drew ?_|refine blk_alloc ?_ _));exact BK524.out),(by (with_reducible repeat (first|refine blk_drewN ?_ _|refine blk_drew ?_|refine blk_alloc ?_ _));exact BK525.out),(by (with_reducible repeat (first|refine blk_drewN ?_ _|refine blk_drew ?_|refine blk_alloc ?_ _));exact BK532.out),GW532.out,GE532.out,NB523_532.out,NB532_523.out,NB524_532.out,NB532_524.out,NB525_532.out,NB532_525.out,(by repeat (first|(with_reducible first|exact HB.out|apply bA_|apply bN_|apply bD_|refine below_set ?_ GE523.out|refine below_set ?_ GE524.out|refine below_set ?_ GE525.out|refine below_set ?_ GE532.out)|exact HB.out))⟩)
            ·skip
             refine box_step ?hg (N:=6) ?hd (cs:=#[.slice none 0 0]) (t:=87) ?hr ?_;(case hd=>rfl);(case hg=>rfl);(case hr=>first|(go_simp;done)|(go_simp;rfl))
             intro gb533 hg w10 hbox hb
             have n0_:=Aside0.mk (blk_below (g:=gb523) (o:=.cells #[.bool a0_0,.slice A0_1 l0_1.length c0_1] 38 (0,0)) (by (with_reducible repeat (first|refine blk_drewN ?_ _|refine blk_drew ?_|refine blk_alloc ?_ _));exact BK523.out) hb)
             have n1_:=Aside0.mk (blk_below (g:=gb524) (o:=.cells #[.bool a1_0,.slice A1_1 l1_1.length c1_1] 38 (0,0)) (by (with_reducible repeat (first|refine blk_drewN ?_ _|refine blk_drew ?_|refine blk_alloc ?_ _));exact BK524.out) hb)
             have n2_:=Aside0.mk (blk_below (g:=gb525) (o:=.cells #[.bool false,.slice none 0 0] 38 (0,0)) (by (with_reducible repeat (first|refine blk_drewN ?_ _|refine blk_drew ?_|refine blk_alloc ?_ _));exact BK525.out) hb)
             have n3_:=Aside0.mk (below_step (by repeat (first|(with_reducible first|exact HB.out|apply bA_|apply bN_|apply bD_|refine below_set ?_ GE523.out|refine below_set ?_ GE524.out|refine below_set ?_ GE525.out)|exact HB.out)) hb)
             have n4_:=Aside0.mk (hbox)
             have n5_:=Aside0.mk ((by rw [hg];exact (below_size (by repeat (first|(with_reducible first|exact HB.out|apply bA_|apply bN_|apply bD_|refine below_set ?_ GE523.out|refine below_set ?_ GE524.out|refine below_set ?_ GE525.out)|exact HB.out))):w.heap.size≤gb533))
             have n6_:=Aside0.mk ((by rw [hg];exact (below_size (by repeat (first|(with_reducible first|exact HB.out|apply bA_|apply bN_|apply bD_|refine below_set ?_ GE523.out|refine below_set ?_ GE524.out|refine below_set ?_ GE525.out)|exact HB.out))):w.heap.size≤gb533))
             have n7_:=Aside0.mk ((by rw [hg];exact Nat.ne_of_lt (blk_lt (g:=gb523) (o:=.cells #[.bool a0_0,.slice A0_1 l0_1.length c0_1] 38 (0,0)) (by (with_reducible repeat (first|refine blk_drewN ?_ _|refine blk_drew ?_|refine blk_alloc ?_ _));exact BK523.out)):gb523≠gb533))
             have n8_:=Aside0.mk ((by rw [hg];exact Nat.ne_of_gt (blk_lt (g:=gb523) (o:=.cells #[.bool a0_0,.slice A0_1 l0_1.length c0_1] 38 (0,0)) (by (with_reducible repeat (first|refine blk_drewN ?_ _|refine blk_drew ?_|refine blk_alloc ?_ _));exact BK523.out)):gb533≠gb523))
             have n9_:=Aside0.mk ((by rw [hg];exact Nat.ne_of_lt (blk_lt (g:=gb524) (o:=.cells #[.bool a1_0,.slice A1_1 l1_1.length c1_1] 38 (0,0)) (by (with_reducible repeat (first|refine blk_drewN ?_ _|refine blk_drew ?_|refine blk_alloc ?_ _));exact BK524.out)):gb524≠gb533))
             have n10_:=Aside0.mk ((by rw [hg];exact Nat.ne_of_gt (blk_lt (g:=gb524) (o:=.cells #[.bool a1_0,.slice A1_1 l1_1.length c1_1] 38 (0,0)) (by (with_reducible repeat (first|refine blk_drewN ?_ _|refine blk_drew ?_|refine blk_alloc ?_ _));exact BK524.out)):gb533≠gb524))
             have n11_:=Aside0.mk ((by rw [hg];exact Nat.ne_of_lt (blk_lt (g:=gb525) (o:=.cells #[.bool false,.slice none 0 0] 38 (0,0)) (by (with_reducible repeat (first|refine blk_drewN ?_ _|refine blk_drew ?_|refine blk_alloc ?_ _));exact BK525.out)):gb525≠gb533))
             have n12_:=Aside0.mk ((by rw [hg];exact Nat.ne_of_gt (blk_lt (g:=gb525) (o:=.cells #[.bool false,.slice none 0 0] 38 (0,0)) (by (with_reducible repeat (first|refine blk_drewN ?_ _|refine blk_drew ?_|refine blk_alloc ?_ _));exact BK525.out)):gb533≠gb525))
             clear BK523
             clear BK524
             clear BK525
             clear HB
             have BK523:=n0_
             have BK524:=n1_
             have BK525:=n2_
             have HB:=n3_
             have BK533:=n4_
             have GW533:=n5_
             have GE533:=n6_
             have NB523_533:=n7_
             have NB533_523:=n8_
             have NB524_533:=n9_
             have NB533_524:=n10_
             have NB525_533:=n11_
             have NB533_525:=n12_
             clear n0_ n1_ n2_ n3_ n4_ n5_ n6_ n7_ n8_ n9_ n10_ n11_ n12_
             clear hb hbox hg
             refine hK.out _ _ ⟨(blk_cell BK523.out 0).trans rfl,(blk_cell BK523.out 1).trans rfl,(blk_cell BK524.out 0).trans rfl,(blk_cell BK524.out 1).trans rfl⟩ (fun hHeld=>?_)
             clear hK K
             refine norm_ (a':=?_) ?_ ?_
             rotate_left
             ·show Act.put _ (some 6) _=_
              simp only [Act.put,List.setIfInBounds_toArray,List.set_cons_zero,List.set_cons_succ,i64_w,i32_w]
              rfl
             exact norm_ (by first|(simp only [putAll,Act.put,List.setIfInBounds_toArray,List.set_cons_zero,List.set_cons_succ];done)|(simp only [putAll,Act.put,List.setIfInBounds_toArray,List.set_cons_zero,List.set_cons_succ];rfl)) (hJ7 (gb533) _ ⟨hHeld,(by (with_reducible repeat (first|refine blk_drewN ?_ _|refine blk_drew ?_|refine blk_alloc ?_ _));exact BK523.out),(by (with_reducible repeat (first|refine blk_drewN ?_ _|refine blk_drew ?_|refine blk_alloc ?_ _));exact BK524.out),(by (with_reducible repeat (first|refine blk_drewN ?_ _|refine blk_drew ?_|refine blk_alloc ?_ _));exact BK525.out),(by (with_reducible repeat (first|refine blk_drewN ?_ _|refine blk_drew ?_|refine blk_alloc ?_ _));exact BK533.out),GW533.out,GE533.out,NB523_533.out,NB533_523.out,NB524_533.out,NB533_524.out,NB525_533.out,NB533_525.out,(by repeat (first|(with_reducible first|exact HB.out|apply bA_|apply bN_|apply bD_|refine below_set ?_ GE523.out|refine below_set ?_ GE524.out|refine below_set ?_ GE525.out|refine below_set ?_ GE533.out)|exact HB.out))⟩)
           ·skip
            rintro gb533 w11 ⟨hS_,h0_,h1_,h2_,h3_,h4_,h5_,h6_,h7_,h8_,h9_,h10_,h11_,h12_⟩
            have n0_:Aside0 (w11.heap[gb523]? = some (.cells #[.bool a0_0,.slice A0_1 l0_1.length c0_1] 38 (0,0))):=⟨h0_⟩
            have n1_:Aside0 (w11.heap[gb524]? = some (.cells #[.bool a1_0,.slice A1_1 l1_1.length c1_1] 38 (0,0))):=⟨h1_⟩
            have n2_:Aside0 (w11.heap[gb525]? = some (.cells #[.bool false,.slice none 0 0] 38 (0,0))):=⟨h2_⟩
            have n3_:Aside0 (w11.heap[gb533]? = some (.cells #[.slice none 0 0] 87 (0,0))):=⟨h3_⟩
            have n4_:Aside0 (w.heap.size≤gb533):=⟨h4_⟩
            have n5_:Aside0 (w.heap.size≤gb533):=⟨h5_⟩
            have n6_:Aside0 (gb523≠gb533):=⟨h6_⟩
            have n7_:Aside0 (gb533≠gb523):=⟨h7_⟩
            have n8_:Aside0 (gb524≠gb533):=⟨h8_⟩
            have n9_:Aside0 (gb533≠gb524):=⟨h9_⟩
            have n10_:Aside0 (gb525≠gb533):=⟨h10_⟩
            have n11_:Aside0 (gb533≠gb525):=⟨h11_⟩
            have n12_:Aside0 (Below w.heap.size w w11):=⟨h12_⟩
            clear BK523
            clear BK524
            clear BK525
            clear HB
            clear h0_ h1_ h2_ h3_ h4_ h5_ h6_ h7_ h8_ h9_ h10_ h11_ h12_
            have BK523:=n0_
            have BK524:=n1_
            have BK525:=n2_
            have BK533:=n3_
            have GW533:=n4_
            have GE533:=n5_
            have NB523_533:=n6_
            have NB533_523:=n7_
            have NB524_533:=n8_
            have NB533_524:=n9_
            have NB525_533:=n10_
            have NB533_525:=n11_
            have HB:=n12_
            clear n0_ n1_ n2_ n3_ n4_ n5_ n6_ n7_ n8_ n9_ n10_ n11_ n12_
            have hHeld:w11.cell? ⟨gb523,0,none⟩=some (.bool a0_0)∧w11.cell? ⟨gb523,1,none⟩=some (.slice A0_1 l0_1.length c0_1)∧w11.cell? ⟨gb524,0,none⟩=some (.bool a1_0)∧w11.cell? ⟨gb524,1,none⟩=some (.slice A1_1 l1_1.length c1_1):=hS_
            refine norm_ (a':=?_) ?_ ?_
            rotate_left
            ·simp only [putAll,Act.put,List.setIfInBounds_toArray,List.set_cons_zero,List.set_cons_succ]
             rfl
            refine two_ (i:=2) (j:=6) (Ni:=some 9) (Nj:=some 5) #[true,true,true,true,true,false,false,true,false,false] #[true,true,false,true,true,false,true,true,false,false] rfl rfl rfl rfl (two_of HT_.out (by kernel_rfl)) (by decide) (by decide) (fun K hK=>?_) (fun K hK=>?_)
            ·skip
             refine goes_ Try.func61 (by kernel_rfl) rfl #[.slice A0_1 l0_1.length c0_1] (by rfl) rfl rfl (by (try simp only [List.map_toArray,List.map_cons,List.map_nil]);first|done|rfl|(simp only [List.length_drop,List.length_take];rfl)) ?_
             with_reducible refine (names_of_string.calls _ _ l0_1 t526 _ ?side1 ?side2 A3.out).mono ?_
             (case side1=>repeat (first|exact (Kd.C_below HR0_1.out HB.out)|(with_reducible refine cA_ ?_ _)|(with_reducible refine cN_ ?_ _)|(with_reducible refine cD_ ?_)))
             (case side2=>exact HC0_1.out)
             rintro e w12 ⟨v527,rfl,ho0,hb⟩
             refine ⟨_,rfl,?_⟩
             have n0_:=Aside0.mk (Kd.R_lower ho0 (below_size (by repeat (first|(with_reducible first|exact HB.out|apply bA_|apply bN_|apply bD_|refine below_set ?_ GE523.out|refine below_set ?_ GE524.out|refine below_set ?_ GE525.out|refine below_set ?_ GE533.out)|exact HB.out))))
             have n1_:=Aside0.mk (blk_below (g:=gb523) (o:=.cells #[.bool a0_0,.slice A0_1 l0_1.length c0_1] 38 (0,0)) (by (with_reducible repeat (first|refine blk_drewN ?_ _|refine blk_drew ?_|refine blk_alloc ?_ _));exact BK523.out) hb)
             have n2_:=Aside0.mk (blk_below (g:=gb524) (o:=.cells #[.bool a1_0,.slice A1_1 l1_1.length c1_1] 38 (0,0)) (by (with_reducible repeat (first|refine blk_drewN ?_ _|refine blk_drew ?_|refine blk_alloc ?_ _));exact BK524.out) hb)
             have n3_:=Aside0.mk (blk_below (g:=gb525) (o:=.cells #[.bool false,.slice none 0 0] 38 (0,0)) (by (with_reducible repeat (first|refine blk_drewN ?_ _|refine blk_drew ?_|refine blk_alloc ?_ _));exact BK525.out) hb)
             have n4_:=Aside0.mk (blk_below (g:=gb533) (o:=.cells #[.slice none 0 0] 87 (0,0)) (by (with_reducible repeat (first|refine blk_drewN ?_ _|refine blk_drew ?_|refine blk_alloc ?_ _));exact BK533.out) hb)
             have n5_:=Aside0.mk (below_step (by repeat (first|(with_reducible first|exact HB.out|apply bA_|apply bN_|apply bD_|refine below_set ?_ GE523.out|refine below_set ?_ GE524.out|refine below_set ?_ GE525.out|refine below_set ?_ GE533.out)|exact HB.out)) hb)
             clear BK523
             clear BK524
             clear BK525
             clear BK533
             clear HB
             have HO528:=n0_
             have BK523:=n1_
             have BK524:=n2_
             have BK525:=n3_
             have BK533:=n4_
             have HB:=n5_
             clear n0_ n1_ n2_ n3_ n4_ n5_
             (try clear hb)
             (try clear hb2)
             (try clear hk)
             (try clear hi)
             (try clear ho0)
             refine hK.out _ _ ⟨(blk_cell BK523.out 0).trans rfl,(blk_cell BK523.out 1).trans rfl,(blk_cell BK524.out 0).trans rfl,(blk_cell BK524.out 1).trans rfl⟩ (fun hHeld=>?_)
             clear hK K
             refine norm_ (a':=?_) ?_ ?_
             rotate_left
             ·show Act.put _ (some 9) _=_
              simp only [Act.put,List.setIfInBounds_toArray,List.set_cons_zero,List.set_cons_succ,i64_w,i32_w]
              rfl
             exact norm_ (by first|(simp only [putAll,Act.put,List.setIfInBounds_toArray,List.set_cons_zero,List.set_cons_succ];done)|(simp only [putAll,Act.put,List.setIfInBounds_toArray,List.set_cons_zero,List.set_cons_succ];rfl)) (hJ2_7 (v527,gb533) _ ⟨hHeld,(by (with_reducible repeat (first|apply rA_|apply rN_|apply rD_));exact HO528.out),(by (with_reducible repeat (first|refine blk_drewN ?_ _|refine blk_drew ?_|refine blk_alloc ?_ _));exact BK523.out),(by (with_reducible repeat (first|refine blk_drewN ?_ _|refine blk_drew ?_|refine blk_alloc ?_ _));exact BK524.out),(by (with_reducible repeat (first|refine blk_drewN ?_ _|refine blk_drew ?_|refine blk_alloc ?_ _));exact BK525.out),(by (with_reducible repeat (first|refine blk_drewN ?_ _|refine blk_drew ?_|refine blk_alloc ?_ _));exact BK533.out),GW533.out,GE533.out,NB523_533.out,NB533_523.out,NB524_533.out,NB533_524.out,NB525_533.out,NB533_525.out,(by repeat (first|(with_reducible first|exact HB.out|apply bA_|apply bN_|apply bD_|refine below_set ?_ GE523.out|refine below_set ?_ GE524.out|refine below_set ?_ GE525.out|refine below_set ?_ GE533.out)|exact HB.out))⟩)
            ·skip
             refine box_step ?hg (N:=5) ?hd (cs:=#[.slice none 0 0]) (t:=87) ?hr ?_;(case hd=>rfl);(case hg=>rfl);(case hr=>first|(go_simp;done)|(go_simp;rfl))
             intro gb532 hg w12 hbox hb
             have n0_:=Aside0.mk (blk_below (g:=gb523) (o:=.cells #[.bool a0_0,.slice A0_1 l0_1.length c0_1] 38 (0,0)) (by (with_reducible repeat (first|refine blk_drewN ?_ _|refine blk_drew ?_|refine blk_alloc ?_ _));exact BK523.out) hb)
             have n1_:=Aside0.mk (blk_below (g:=gb524) (o:=.cells #[.bool a1_0,.slice A1_1 l1_1.length c1_1] 38 (0,0)) (by (with_reducible repeat (first|refine blk_drewN ?_ _|refine blk_drew ?_|refine blk_alloc ?_ _));exact BK524.out) hb)
             have n2_:=Aside0.mk (blk_below (g:=gb525) (o:=.cells #[.bool false,.slice none 0 0] 38 (0,0)) (by (with_reducible repeat (first|refine blk_drewN ?_ _|refine blk_drew ?_|refine blk_alloc ?_ _));exact BK525.out) hb)
             have n3_:=Aside0.mk (blk_below (g:=gb533) (o:=.cells #[.slice none 0 0] 87 (0,0)) (by (with_reducible repeat (first|refine blk_drewN ?_ _|refine blk_drew ?_|refine blk_alloc ?_ _));exact BK533.out) hb)
             have n4_:=Aside0.mk (below_step (by repeat (first|(with_reducible first|exact HB.out|apply bA_|apply bN_|apply bD_|refine below_set ?_ GE523.out|refine below_set ?_ GE524.out|refine below_set ?_ GE525.out|refine below_set ?_ GE533.out)|exact HB.out)) hb)
             have n5_:=Aside0.mk (hbox)
             have n6_:=Aside0.mk ((by rw [hg];exact (below_size (by repeat (first|(with_reducible first|exact HB.out|apply bA_|apply bN_|apply bD_|refine below_set ?_ GE523.out|refine below_set ?_ GE524.out|refine below_set ?_ GE525.out|refine below_set ?_ GE533.out)|exact HB.out))):w.heap.size≤gb532))
             have n7_:=Aside0.mk ((by rw [hg];exact (below_size (by repeat (first|(with_reducible first|exact HB.out|apply bA_|apply bN_|apply bD_|refine below_set ?_ GE523.out|refine below_set ?_ GE524.out|refine below_set ?_ GE525.out|refine below_set ?_ GE533.out)|exact HB.out))):w.heap.size≤gb532))
             have n8_:=Aside0.mk ((by rw [hg];exact Nat.ne_of_lt (blk_lt (g:=gb523) (o:=.cells #[.bool a0_0,.slice A0_1 l0_1.length c0_1] 38 (0,0)) (by (with_reducible repeat (first|refine blk_drewN ?_ _|refine blk_drew ?_|refine blk_alloc ?_ _));exact BK523.out)):gb523≠gb532))
             have n9_:=Aside0.mk ((by rw [hg];exact Nat.ne_of_gt (blk_lt (g:=gb523) (o:=.cells #[.bool a0_0,.slice A0_1 l0_1.length c0_1] 38 (0,0)) (by (with_reducible repeat (first|refine blk_drewN ?_ _|refine blk_drew ?_|refine blk_alloc ?_ _));exact BK523.out)):gb532≠gb523))
             have n10_:=Aside0.mk ((by rw [hg];exact Nat.ne_of_lt (blk_lt (g:=gb524) (o:=.cells #[.bool a1_0,.slice A1_1 l1_1.length c1_1] 38 (0,0)) (by (with_reducible repeat (first|refine blk_drewN ?_ _|refine blk_drew ?_|refine blk_alloc ?_ _));exact BK524.out)):gb524≠gb532))
             have n11_:=Aside0.mk ((by rw [hg];exact Nat.ne_of_gt (blk_lt (g:=gb524) (o:=.cells #[.bool a1_0,.slice A1_1 l1_1.length c1_1] 38 (0,0)) (by (with_reducible repeat (first|refine blk_drewN ?_ _|refine blk_drew ?_|refine blk_alloc ?_ _));exact BK524.out)):gb532≠gb524))
             have n12_:=Aside0.mk ((by rw [hg];exact Nat.ne_of_lt (blk_lt (g:=gb525) (o:=.cells #[.bool false,.slice none 0 0] 38 (0,0)) (by (with_reducible repeat (first|refine blk_drewN ?_ _|refine blk_drew ?_|refine blk_alloc ?_ _));exact BK525.out)):gb525≠gb532))
             have n13_:=Aside0.mk ((by rw [hg];exact Nat.ne_of_gt (blk_lt (g:=gb525) (o:=.cells #[.bool false,.slice none 0 0] 38 (0,0)) (by (with_reducible repeat (first|refine blk_drewN ?_ _|refine blk_drew ?_|refine blk_alloc ?_ _));exact BK525.out)):gb532≠gb525))
             have n14_:=Aside0.mk ((by rw [hg];exact Nat.ne_of_lt (blk_lt (g:=gb533) (o:=.cells #[.slice none 0 0] 87 (0,0)) (by (with_reducible repeat (first|refine blk_drewN ?_ _|refine blk_drew ?_|refine blk_alloc ?_ _));exact BK533.out)):gb533≠gb532))
             have n15_:=Aside0.mk ((by rw [hg];exact Nat.ne_of_gt (blk_lt (g:=gb533) (o:=.cells #[.slice none 0 0] 87 (0,0)) (by (with_reducible repeat (first|refine blk_drewN ?_ _|refine blk_drew ?_|refine blk_alloc ?_ _));exact BK533.out)):gb532≠gb533))
             clear BK523
             clear BK524
             clear BK525
             clear BK533
             clear HB
             have BK523:=n0_
             have BK524:=n1_
             have BK525:=n2_
             have BK533:=n3_
             have HB:=n4_
             have BK532:=n5_
             have GW532:=n6_
             have GE532:=n7_
             have NB523_532:=n8_
             have NB532_523:=n9_
             have NB524_532:=n10_
             have NB532_524:=n11_
             have NB525_532:=n12_
             have NB532_525:=n13_
             have NB533_532:=n14_
             have NB532_533:=n15_
             clear n0_ n1_ n2_ n3_ n4_ n5_ n6_ n7_ n8_ n9_ n10_ n11_ n12_ n13_ n14_ n15_
             clear hb hbox hg
             refine hK.out _ _ ⟨(blk_cell BK523.out 0).trans rfl,(blk_cell BK523.out 1).trans rfl,(blk_cell BK524.out 0).trans rfl,(blk_cell BK524.out 1).trans rfl⟩ (fun hHeld=>?_)
             clear hK K
             refine norm_ (a':=?_) ?_ ?_
             rotate_left
             ·show Act.put _ (some 5) _=_
              simp only [Act.put,List.setIfInBounds_toArray,List.set_cons_zero,List.set_cons_succ,i64_w,i32_w]
              rfl
             exact norm_ (by first|(simp only [putAll,Act.put,List.setIfInBounds_toArray,List.set_cons_zero,List.set_cons_succ];done)|(simp only [putAll,Act.put,List.setIfInBounds_toArray,List.set_cons_zero,List.set_cons_succ];rfl)) (hJ6_7 (gb532,gb533) _ ⟨hHeld,(by (with_reducible repeat (first|refine blk_drewN ?_ _|refine blk_drew ?_|refine blk_alloc ?_ _));exact BK523.out),(by (with_reducible repeat (first|refine blk_drewN ?_ _|refine blk_drew ?_|refine blk_alloc ?_ _));exact BK524.out),(by (with_reducible repeat (first|refine blk_drewN ?_ _|refine blk_drew ?_|refine blk_alloc ?_ _));exact BK525.out),(by (with_reducible repeat (first|refine blk_drewN ?_ _|refine blk_drew ?_|refine blk_alloc ?_ _));exact BK532.out),(by (with_reducible repeat (first|refine blk_drewN ?_ _|refine blk_drew ?_|refine blk_alloc ?_ _));exact BK533.out),GW532.out,GE532.out,NB523_532.out,NB532_523.out,NB524_532.out,NB532_524.out,NB525_532.out,NB532_525.out,NB533_532.out,NB532_533.out,GW533.out,GE533.out,NB523_533.out,NB533_523.out,NB524_533.out,NB533_524.out,NB525_533.out,NB533_525.out,(by repeat (first|(with_reducible first|exact HB.out|apply bA_|apply bN_|apply bD_|refine below_set ?_ GE523.out|refine below_set ?_ GE524.out|refine below_set ?_ GE525.out|refine below_set ?_ GE533.out|refine below_set ?_ GE532.out)|exact HB.out))⟩)
          ·skip
           rintro gb532 w11 ⟨hS_,h0_,h1_,h2_,h3_,h4_,h5_,h6_,h7_,h8_,h9_,h10_,h11_,h12_⟩
           have n0_:Aside0 (w11.heap[gb523]? = some (.cells #[.bool a0_0,.slice A0_1 l0_1.length c0_1] 38 (0,0))):=⟨h0_⟩
           have n1_:Aside0 (w11.heap[gb524]? = some (.cells #[.bool a1_0,.slice A1_1 l1_1.length c1_1] 38 (0,0))):=⟨h1_⟩
           have n2_:Aside0 (w11.heap[gb525]? = some (.cells #[.bool false,.slice none 0 0] 38 (0,0))):=⟨h2_⟩
           have n3_:Aside0 (w11.heap[gb532]? = some (.cells #[.slice none 0 0] 87 (0,0))):=⟨h3_⟩
           have n4_:Aside0 (w.heap.size≤gb532):=⟨h4_⟩
           have n5_:Aside0 (w.heap.size≤gb532):=⟨h5_⟩
           have n6_:Aside0 (gb523≠gb532):=⟨h6_⟩
           have n7_:Aside0 (gb532≠gb523):=⟨h7_⟩
           have n8_:Aside0 (gb524≠gb532):=⟨h8_⟩
           have n9_:Aside0 (gb532≠gb524):=⟨h9_⟩
           have n10_:Aside0 (gb525≠gb532):=⟨h10_⟩
           have n11_:Aside0 (gb532≠gb525):=⟨h11_⟩
           have n12_:Aside0 (Below w.heap.size w w11):=⟨h12_⟩
           clear BK523
           clear BK524
           clear BK525
           clear HB
           clear h0_ h1_ h2_ h3_ h4_ h5_ h6_ h7_ h8_ h9_ h10_ h11_ h12_
           have BK523:=n0_
           have BK524:=n1_
           have BK525:=n2_
           have BK532:=n3_
           have GW532:=n4_
           have GE532:=n5_
           have NB523_532:=n6_
           have NB532_523:=n7_
           have NB524_532:=n8_
           have NB532_524:=n9_
           have NB525_532:=n10_
           have NB532_525:=n11_
           have HB:=n12_
           clear n0_ n1_ n2_ n3_ n4_ n5_ n6_ n7_ n8_ n9_ n10_ n11_ n12_
           have hHeld:w11.cell? ⟨gb523,0,none⟩=some (.bool a0_0)∧w11.cell? ⟨gb523,1,none⟩=some (.slice A0_1 l0_1.length c0_1)∧w11.cell? ⟨gb524,0,none⟩=some (.bool a1_0)∧w11.cell? ⟨gb524,1,none⟩=some (.slice A1_1 l1_1.length c1_1):=hS_
           refine norm_ (a':=?_) ?_ ?_
           rotate_left
           ·simp only [putAll,Act.put,List.setIfInBounds_toArray,List.set_cons_zero,List.set_cons_succ]
            rfl
           refine two_ (i:=2) (j:=7) (Ni:=some 9) (Nj:=some 6) #[true,true,true,true,true,false,true,false,false,false] #[true,true,false,true,true,false,true,true,false,false] rfl rfl rfl rfl (two_of HT_.out (by kernel_rfl)) (by decide) (by decide) (fun K hK=>?_) (fun K hK=>?_)
           ·skip
            refine goes_ Try.func61 (by kernel_rfl) rfl #[.slice A0_1 l0_1.length c0_1] (by rfl) rfl rfl (by (try simp only [List.map_toArray,List.map_cons,List.map_nil]);first|done|rfl|(simp only [List.length_drop,List.length_take];rfl)) ?_
            with_reducible refine (names_of_string.calls _ _ l0_1 t526 _ ?side1 ?side2 A3.out).mono ?_
            (case side1=>repeat (first|exact (Kd.C_below HR0_1.out HB.out)|(with_reducible refine cA_ ?_ _)|(with_reducible refine cN_ ?_ _)|(with_reducible refine cD_ ?_)))
            (case side2=>exact HC0_1.out)
            rintro e w12 ⟨v527,rfl,ho0,hb⟩
            refine ⟨_,rfl,?_⟩
            have n0_:=Aside0.mk (Kd.R_lower ho0 (below_size (by repeat (first|(with_reducible first|exact HB.out|apply bA_|apply bN_|apply bD_|refine below_set ?_ GE523.out|refine below_set ?_ GE524.out|refine below_set ?_ GE525.out|refine below_set ?_ GE532.out)|exact HB.out))))
            have n1_:=Aside0.mk (blk_below (g:=gb523) (o:=.cells #[.bool a0_0,.slice A0_1 l0_1.length c0_1] 38 (0,0)) (by (with_reducible repeat (first|refine blk_drewN ?_ _|refine blk_drew ?_|refine blk_alloc ?_ _));exact BK523.out) hb)
            have n2_:=Aside0.mk (blk_below (g:=gb524) (o:=.cells #[.bool a1_0,.slice A1_1 l1_1.length c1_1] 38 (0,0)) (by (with_reducible repeat (first|refine blk_drewN ?_ _|refine blk_drew ?_|refine blk_alloc ?_ _));exact BK524.out) hb)
            have n3_:=Aside0.mk (blk_below (g:=gb525) (o:=.cells #[.bool false,.slice none 0 0] 38 (0,0)) (by (with_reducible repeat (first|refine blk_drewN ?_ _|refine blk_drew ?_|refine blk_alloc ?_ _));exact BK525.out) hb)
            have n4_:=Aside0.mk (blk_below (g:=gb532) (o:=.cells #[.slice none 0 0] 87 (0,0)) (by (with_reducible repeat (first|refine blk_drewN ?_ _|refine blk_drew ?_|refine blk_alloc ?_ _));exact BK532.out) hb)
            have n5_:=Aside0.mk (below_step (by repeat (first|(with_reducible first|exact HB.out|apply bA_|apply bN_|apply bD_|refine below_set ?_ GE523.out|refine below_set ?_ GE524.out|refine below_set ?_ GE525.out|refine below_set ?_ GE532.out)|exact HB.out)) hb)
            clear BK523
            clear BK524
            clear BK525
            clear BK532
            clear HB
            have HO528:=n0_
            have BK523:=n1_
            have BK524:=n2_
            have BK525:=n3_
            have BK532:=n4_
            have HB:=n5_
            clear n0_ n1_ n2_ n3_ n4_ n5_
            (try clear hb)
            (try clear hb2)
            (try clear hk)
            (try clear hi)
            (try clear ho0)
            refine hK.out _ _ ⟨(blk_cell BK523.out 0).trans rfl,(blk_cell BK523.out 1).trans rfl,(blk_cell BK524.out 0).trans rfl,(blk_cell BK524.out 1).trans rfl⟩ (fun hHeld=>?_)
            clear hK K
            refine norm_ (a':=?_) ?_ ?_
            rotate_left
            ·show Act.put _ (some 9) _=_
             simp only [Act.put,List.setIfInBounds_toArray,List.set_cons_zero,List.set_cons_succ,i64_w,i32_w]
             rfl
            exact norm_ (by first|(simp only [putAll,Act.put,List.setIfInBounds_toArray,List.set_cons_zero,List.set_cons_succ];done)|(simp only [putAll,Act.put,List.setIfInBounds_toArray,List.set_cons_zero,List.set_cons_succ];rfl)) (hJ2_6 (v527,gb532) _ ⟨hHeld,(by (with_reducible repeat (first|apply rA_|apply rN_|apply rD_));exact HO528.out),(by (with_reducible repeat (first|refine blk_drewN ?_ _|refine blk_drew ?_|refine blk_alloc ?_ _));exact BK523.out),(by (with_reducible repeat (first|refine blk_drewN ?_ _|refine blk_drew ?_|refine blk_alloc ?_ _));exact BK524.out),(by (with_reducible repeat (first|refine blk_drewN ?_ _|refine blk_drew ?_|refine blk_alloc ?_ _));exact BK525.out),(by (with_reducible repeat (first|refine blk_drewN ?_ _|refine blk_drew ?_|refine blk_alloc ?_ _));exact BK532.out),GW532.out,GE532.out,NB523_532.out,NB532_523.out,NB524_532.out,NB532_524.out,NB525_532.out,NB532_525.out,(by repeat (first|(with_reducible first|exact HB.out|apply bA_|apply bN_|apply bD_|refine below_set ?_ GE523.out|refine below_set ?_ GE524.out|refine below_set ?_ GE525.out|refine below_set ?_ GE532.out)|exact HB.out))⟩)
           ·skip
            refine box_step ?hg (N:=6) ?hd (cs:=#[.slice none 0 0]) (t:=87) ?hr ?_;(case hd=>rfl);(case hg=>rfl);(case hr=>first|(go_simp;done)|(go_simp;rfl))
            intro gb533 hg w12 hbox hb
            have n0_:=Aside0.mk (blk_below (g:=gb523) (o:=.cells #[.bool a0_0,.slice A0_1 l0_1.length c0_1] 38 (0,0)) (by (with_reducible repeat (first|refine blk_drewN ?_ _|refine blk_drew ?_|refine blk_alloc ?_ _));exact BK523.out) hb)
            have n1_:=Aside0.mk (blk_below (g:=gb524) (o:=.cells #[.bool a1_0,.slice A1_1 l1_1.length c1_1] 38 (0,0)) (by (with_reducible repeat (first|refine blk_drewN ?_ _|refine blk_drew ?_|refine blk_alloc ?_ _));exact BK524.out) hb)
            have n2_:=Aside0.mk (blk_below (g:=gb525) (o:=.cells #[.bool false,.slice none 0 0] 38 (0,0)) (by (with_reducible repeat (first|refine blk_drewN ?_ _|refine blk_drew ?_|refine blk_alloc ?_ _));exact BK525.out) hb)
            have n3_:=Aside0.mk (blk_below (g:=gb532) (o:=.cells #[.slice none 0 0] 87 (0,0)) (by (with_reducible repeat (first|refine blk_drewN ?_ _|refine blk_drew ?_|refine blk_alloc ?_ _));exact BK532.out) hb)
            have n4_:=Aside0.mk (below_step (by repeat (first|(with_reducible first|exact HB.out|apply bA_|apply bN_|apply bD_|refine below_set ?_ GE523.out|refine below_set ?_ GE524.out|refine below_set ?_ GE525.out|refine below_set ?_ GE532.out)|exact HB.out)) hb)
            have n5_:=Aside0.mk (hbox)
            have n6_:=Aside0.mk ((by rw [hg];exact (below_size (by repeat (first|(with_reducible first|exact HB.out|apply bA_|apply bN_|apply bD_|refine below_set ?_ GE523.out|refine below_set ?_ GE524.out|refine below_set ?_ GE525.out|refine below_set ?_ GE532.out)|exact HB.out))):w.heap.size≤gb533))
            have n7_:=Aside0.mk ((by rw [hg];exact (below_size (by repeat (first|(with_reducible first|exact HB.out|apply bA_|apply bN_|apply bD_|refine below_set ?_ GE523.out|refine below_set ?_ GE524.out|refine below_set ?_ GE525.out|refine below_set ?_ GE532.out)|exact HB.out))):w.heap.size≤gb533))
            have n8_:=Aside0.mk ((by rw [hg];exact Nat.ne_of_lt (blk_lt (g:=gb523) (o:=.cells #[.bool a0_0,.slice A0_1 l0_1.length c0_1] 38 (0,0)) (by (with_reducible repeat (first|refine blk_drewN ?_ _|refine blk_drew ?_|refine blk_alloc ?_ _));exact BK523.out)):gb523≠gb533))
            have n9_:=Aside0.mk ((by rw [hg];exact Nat.ne_of_gt (blk_lt (g:=gb523) (o:=.cells #[.bool a0_0,.slice A0_1 l0_1.length c0_1] 38 (0,0)) (by (with_reducible repeat (first|refine blk_drewN ?_ _|refine blk_drew ?_|refine blk_alloc ?_ _));exact BK523.out)):gb533≠gb523))
            have n10_:=Aside0.mk ((by rw [hg];exact Nat.ne_of_lt (blk_lt (g:=gb524) (o:=.cells #[.bool a1_0,.slice A1_1 l1_1.length c1_1] 38 (0,0)) (by (with_reducible repeat (first|refine blk_drewN ?_ _|refine blk_drew ?_|refine blk_alloc ?_ _));exact BK524.out)):gb524≠gb533))
            have n11_:=Aside0.mk ((by rw [hg];exact Nat.ne_of_gt (blk_lt (g:=gb524) (o:=.cells #[.bool a1_0,.slice A1_1 l1_1.length c1_1] 38 (0,0)) (by (with_reducible repeat (first|refine blk_drewN ?_ _|refine blk_drew ?_|refine blk_alloc ?_ _));exact BK524.out)):gb533≠gb524))
            have n12_:=Aside0.mk ((by rw [hg];exact Nat.ne_of_lt (blk_lt (g:=gb525) (o:=.cells #[.bool false,.slice none 0 0] 38 (0,0)) (by (with_reducible repeat (first|refine blk_drewN ?_ _|refine blk_drew ?_|refine blk_alloc ?_ _));exact BK525.out)):gb525≠gb533))
            have n13_:=Aside0.mk ((by rw [hg];exact Nat.ne_of_gt (blk_lt (g:=gb525) (o:=.cells #[.bool false,.slice none 0 0] 38 (0,0)) (by (with_reducible repeat (first|refine blk_drewN ?_ _|refine blk_drew ?_|refine blk_alloc ?_ _));exact BK525.out)):gb533≠gb525))
            have n14_:=Aside0.mk ((by rw [hg];exact Nat.ne_of_lt (blk_lt (g:=gb532) (o:=.cells #[.slice none 0 0] 87 (0,0)) (by (with_reducible repeat (first|refine blk_drewN ?_ _|refine blk_drew ?_|refine blk_alloc ?_ _));exact BK532.out)):gb532≠gb533))
            have n15_:=Aside0.mk ((by rw [hg];exact Nat.ne_of_gt (blk_lt (g:=gb532) (o:=.cells #[.slice none 0 0] 87 (0,0)) (by (with_reducible repeat (first|refine blk_drewN ?_ _|refine blk_drew ?_|refine blk_alloc ?_ _));exact BK532.out)):gb533≠gb532))
            clear BK523
            clear BK524
            clear BK525
            clear BK532
            clear HB
            have BK523:=n0_
            have BK524:=n1_
            have BK525:=n2_
            have BK532:=n3_
            have HB:=n4_
            have BK533:=n5_
            have GW533:=n6_
            have GE533:=n7_
            have NB523_533:=n8_
            have NB533_523:=n9_
            have NB524_533:=n10_
            have NB533_524:=n11_
            have NB525_533:=n12_
            have NB533_525:=n13_
            have NB532_533:=n14_
            have NB533_532:=n15_
            clear n0_ n1_ n2_ n3_ n4_ n5_ n6_ n7_ n8_ n9_ n10_ n11_ n12_ n13_ n14_ n15_
            clear hb hbox hg
            refine hK.out _ _ ⟨(blk_cell BK523.out 0).trans rfl,(blk_cell BK523.out 1).trans rfl,(blk_cell BK524.out 0).trans rfl,(blk_cell BK524.out 1).trans rfl⟩ (fun hHeld=>?_)
            clear hK K
            refine norm_ (a':=?_) ?_ ?_
            rotate_left
            ·show Act.put _ (some 6) _=_
             simp only [Act.put,List.setIfInBounds_toArray,List.set_cons_zero,List.set_cons_succ,i64_w,i32_w]
             rfl
            exact norm_ (by first|(simp only [putAll,Act.put,List.setIfInBounds_toArray,List.set_cons_zero,List.set_cons_succ];done)|(simp only [putAll,Act.put,List.setIfInBounds_toArray,List.set_cons_zero,List.set_cons_succ];rfl)) (hJ6_7 (gb532,gb533) _ ⟨hHeld,(by (with_reducible repeat (first|refine blk_drewN ?_ _|refine blk_drew ?_|refine blk_alloc ?_ _));exact BK523.out),(by (with_reducible repeat (first|refine blk_drewN ?_ _|refine blk_drew ?_|refine blk_alloc ?_ _));exact BK524.out),(by (with_reducible repeat (first|refine blk_drewN ?_ _|refine blk_drew ?_|refine blk_alloc ?_ _));exact BK525.out),(by (with_reducible repeat (first|refine blk_drewN ?_ _|refine blk_drew ?_|refine blk_alloc ?_ _));exact BK532.out),(by (with_reducible repeat (first|refine blk_drewN ?_ _|refine blk_drew ?_|refine blk_alloc ?_ _));exact BK533.out),GW532.out,GE532.out,NB523_532.out,NB532_523.out,NB524_532.out,NB532_524.out,NB525_532.out,NB532_525.out,NB533_532.out,NB532_533.out,GW533.out,GE533.out,NB523_533.out,NB533_523.out,NB524_533.out,NB533_524.out,NB525_533.out,NB533_525.out,(by repeat (first|(with_reducible first|exact HB.out|apply bA_|apply bN_|apply bD_|refine below_set ?_ GE523.out|refine below_set ?_ GE524.out|refine below_set ?_ GE525.out|refine below_set ?_ GE532.out|refine below_set ?_ GE533.out)|exact HB.out))⟩)
         ·skip
          rintro v527 w11 ⟨hS_,h0_,h1_,h2_,h3_,h4_⟩
          have n0_:Aside0 (Kd.R Kd.string 9 w11 w.heap.size (fun _=>True) v527 t526):=⟨h0_⟩
          have n1_:Aside0 (w11.heap[gb523]? = some (.cells #[.bool a0_0,.slice A0_1 l0_1.length c0_1] 38 (0,0))):=⟨h1_⟩
          have n2_:Aside0 (w11.heap[gb524]? = some (.cells #[.bool a1_0,.slice A1_1 l1_1.length c1_1] 38 (0,0))):=⟨h2_⟩
          have n3_:Aside0 (w11.heap[gb525]? = some (.cells #[.bool false,.slice none 0 0] 38 (0,0))):=⟨h3_⟩
          have n4_:Aside0 (Below w.heap.size w w11):=⟨h4_⟩
          clear BK523
          clear BK524
          clear BK525
          clear HB
          clear h0_ h1_ h2_ h3_ h4_
          have HO528:=n0_
          have BK523:=n1_
          have BK524:=n2_
          have BK525:=n3_
          have HB:=n4_
          clear n0_ n1_ n2_ n3_ n4_
          have hHeld:w11.cell? ⟨gb523,0,none⟩=some (.bool a0_0)∧w11.cell? ⟨gb523,1,none⟩=some (.slice A0_1 l0_1.length c0_1)∧w11.cell? ⟨gb524,0,none⟩=some (.bool a1_0)∧w11.cell? ⟨gb524,1,none⟩=some (.slice A1_1 l1_1.length c1_1):=hS_
          refine norm_ (a':=?_) ?_ ?_
          rotate_left
          ·simp only [putAll,Act.put,List.setIfInBounds_toArray,List.set_cons_zero,List.set_cons_succ]
           rfl
          refine three_ (i:=5) (j:=6) (k:=7) (Ni:=some 12) (Nj:=some 5) (Nk:=some 6) #[true,true,true,true,true,true,false,false,false,false] #[true,true,true,true,true,false,true,false,false,false] #[true,true,true,true,true,false,false,true,false,false] rfl rfl rfl rfl rfl rfl (three_of HT_.out (by kernel_rfl)) (by decide) (by decide) (by decide) (fun K hK=>?_) (fun K hK=>?_) (fun K hK=>?_)
          ·skip
           refine goes_ Try.func61 (by kernel_rfl) rfl #[.slice A1_1 l1_1.length c1_1] (by rfl) rfl rfl (by (try simp only [List.map_toArray,List.map_cons,List.map_nil]);first|done|rfl|(simp only [List.length_drop,List.length_take];rfl)) ?_
           with_reducible refine (names_of_string.calls _ _ l1_1 t529 _ ?side1 ?side2 A4.out).mono ?_
           (case side1=>repeat (first|exact (Kd.C_below HR1_1.out HB.out)|(with_reducible refine cA_ ?_ _)|(with_reducible refine cN_ ?_ _)|(with_reducible refine cD_ ?_)))
           (case side2=>exact HC1_1.out)
           rintro e w12 ⟨v530,rfl,ho0,hb⟩
           refine ⟨_,rfl,?_⟩
           have n0_:=Aside0.mk (Kd.R_elder' (by (with_reducible repeat (first|apply rA_|apply rN_|apply rD_));exact HO528.out) (Kd.R_base ho0) hb)
           have n1_:=Aside0.mk (Kd.R_lower (Kd.R_new' ho0 (Kd.R_lt (by (with_reducible repeat (first|apply rA_|apply rN_|apply rD_));exact HO528.out))) (below_size (by repeat (first|(with_reducible first|exact HB.out|apply bA_|apply bN_|apply bD_|refine below_set ?_ GE523.out|refine below_set ?_ GE524.out|refine below_set ?_ GE525.out)|exact HB.out))))
           have n2_:=Aside0.mk (blk_below (g:=gb523) (o:=.cells #[.bool a0_0,.slice A0_1 l0_1.length c0_1] 38 (0,0)) (by (with_reducible repeat (first|refine blk_drewN ?_ _|refine blk_drew ?_|refine blk_alloc ?_ _));exact BK523.out) hb)
           have n3_:=Aside0.mk (blk_below (g:=gb524) (o:=.cells #[.bool a1_0,.slice A1_1 l1_1.length c1_1] 38 (0,0)) (by (with_reducible repeat (first|refine blk_drewN ?_ _|refine blk_drew ?_|refine blk_alloc ?_ _));exact BK524.out) hb)
           have n4_:=Aside0.mk (blk_below (g:=gb525) (o:=.cells #[.bool false,.slice none 0 0] 38 (0,0)) (by (with_reducible repeat (first|refine blk_drewN ?_ _|refine blk_drew ?_|refine blk_alloc ?_ _));exact BK525.out) hb)
           have n5_:=Aside0.mk (below_step (by repeat (first|(with_reducible first|exact HB.out|apply bA_|apply bN_|apply bD_|refine below_set ?_ GE523.out|refine below_set ?_ GE524.out|refine below_set ?_ GE525.out)|exact HB.out)) hb)
           clear HO528
           clear BK523
           clear BK524
           clear BK525
           clear HB
           have HO528:=n0_
           have HO531:=n1_
           have BK523:=n2_
           have BK524:=n3_
           have BK525:=n4_
           have HB:=n5_
           clear n0_ n1_ n2_ n3_ n4_ n5_
           (try clear hb)
           (try clear hb2)
           (try clear hk)
           (try clear hi)
           (try clear ho0)
           refine hK.out _ _ ⟨(blk_cell BK523.out 0).trans rfl,(blk_cell BK523.out 1).trans rfl,(blk_cell BK524.out 0).trans rfl,(blk_cell BK524.out 1).trans rfl⟩ (fun hHeld=>?_)
           clear hK K
           refine norm_ (a':=?_) ?_ ?_
           rotate_left
           ·show Act.put _ (some 12) _=_
            simp only [Act.put,List.setIfInBounds_toArray,List.set_cons_zero,List.set_cons_succ,i64_w,i32_w]
            rfl
           exact norm_ (by first|(simp only [putAll,Act.put,List.setIfInBounds_toArray,List.set_cons_zero,List.set_cons_succ];done)|(simp only [putAll,Act.put,List.setIfInBounds_toArray,List.set_cons_zero,List.set_cons_succ];rfl)) (hJ2_5 (v527,v530) _ ⟨hHeld,(by (with_reducible repeat (first|apply rA_|apply rN_|apply rD_));exact Kd.R_mono HO528.out (fun _ hk=>hk.2)),(by (with_reducible repeat (first|apply rA_|apply rN_|apply rD_));exact Kd.R_mono HO531.out (fun _ hk=>hk.2)),(by (with_reducible repeat (first|refine blk_drewN ?_ _|refine blk_drew ?_|refine blk_alloc ?_ _));exact BK523.out),(by (with_reducible repeat (first|refine blk_drewN ?_ _|refine blk_drew ?_|refine blk_alloc ?_ _));exact BK524.out),(by (with_reducible repeat (first|refine blk_drewN ?_ _|refine blk_drew ?_|refine blk_alloc ?_ _));exact BK525.out),(by repeat (first|(with_reducible first|exact HB.out|apply bA_|apply bN_|apply bD_|refine below_set ?_ GE523.out|refine below_set ?_ GE524.out|refine below_set ?_ GE525.out)|exact HB.out))⟩)
          ·skip
           refine box_step ?hg (N:=5) ?hd (cs:=#[.slice none 0 0]) (t:=87) ?hr ?_;(case hd=>rfl);(case hg=>rfl);(case hr=>first|(go_simp;done)|(go_simp;rfl))
           intro gb532 hg w12 hbox hb
           have n0_:=Aside0.mk (Kd.R_below (by (with_reducible repeat (first|apply rA_|apply rN_|apply rD_));exact HO528.out) hb)
           have n1_:=Aside0.mk (blk_below (g:=gb523) (o:=.cells #[.bool a0_0,.slice A0_1 l0_1.length c0_1] 38 (0,0)) (by (with_reducible repeat (first|refine blk_drewN ?_ _|refine blk_drew ?_|refine blk_alloc ?_ _));exact BK523.out) hb)
           have n2_:=Aside0.mk (blk_below (g:=gb524) (o:=.cells #[.bool a1_0,.slice A1_1 l1_1.length c1_1] 38 (0,0)) (by (with_reducible repeat (first|refine blk_drewN ?_ _|refine blk_drew ?_|refine blk_alloc ?_ _));exact BK524.out) hb)
           have n3_:=Aside0.mk (blk_below (g:=gb525) (o:=.cells #[.bool false,.slice none 0 0] 38 (0,0)) (by (with_reducible repeat (first|refine blk_drewN ?_ _|refine blk_drew ?_|refine blk_alloc ?_ _));exact BK525.out) hb)
           have n4_:=Aside0.mk (below_step (by repeat (first|(with_reducible first|exact HB.out|apply bA_|apply bN_|apply bD_|refine below_set ?_ GE523.out|refine below_set ?_ GE524.out|refine below_set ?_ GE525.out)|exact HB.out)) hb)
           have n5_:=Aside0.mk (hbox)
           have n6_:=Aside0.mk ((by rw [hg];exact (below_size (by repeat (first|(with_reducible first|exact HB.out|apply bA_|apply bN_|apply bD_|refine below_set ?_ GE523.out|refine below_set ?_ GE524.out|refine below_set ?_ GE525.out)|exact HB.out))):w.heap.size≤gb532))
           have n7_:=Aside0.mk ((by rw [hg];exact (below_size (by repeat (first|(with_reducible first|exact HB.out|apply bA_|apply bN_|apply bD_|refine below_set ?_ GE523.out|refine below_set ?_ GE524.out|refine below_set ?_ GE525.out)|exact HB.out))):w.heap.size≤gb532))
           have n8_:=Aside0.mk ((by rw [hg];exact Nat.ne_of_lt (blk_lt (g:=gb523) (o:=.cells #[.bool a0_0,.slice A0_1 l0_1.length c0_1] 38 (0,0)) (by (with_reducible repeat (first|refine blk_drewN ?_ _|refine blk_drew ?_|refine blk_alloc ?_ _));exact BK523.out)):gb523≠gb532))
           have n9_:=Aside0.mk ((by rw [hg];exact Nat.ne_of_gt (blk_lt (g:=gb523) (o:=.cells #[.bool a0_0,.slice A0_1 l0_1.length c0_1] 38 (0,0)) (by (with_reducible repeat (first|refine blk_drewN ?_ _|refine blk_drew ?_|refine blk_alloc ?_ _));exact BK523.out)):gb532≠gb523))
           have n10_:=Aside0.mk ((by rw [hg];exact Nat.ne_of_lt (blk_lt (g:=gb524) (o:=.cells #[.bool a1_0,.slice A1_1 l1_1.length c1_1] 38 (0,0)) (by (with_reducible repeat (first|refine blk_drewN ?_ _|refine blk_drew ?_|refine blk_alloc ?_ _));exact BK524.out)):gb524≠gb532))
           have n11_:=Aside0.mk ((by rw [hg];exact Nat.ne_of_gt (blk_lt (g:=gb524) (o:=.cells #[.bool a1_0,.slice A1_1 l1_1.length c1_1] 38 (0,0)) (by (with_reducible repeat (first|refine blk_drewN ?_ _|refine blk_drew ?_|refine blk_alloc ?_ _));exact BK524.out)):gb532≠gb524))
           have n12_:=Aside0.mk ((by rw [hg];exact Nat.ne_of_lt (blk_lt (g:=gb525) (o:=.cells #[.bool false,.slice none 0 0] 38 (0,0)) (by (with_reducible repeat (first|refine blk_drewN ?_ _|refine blk_drew ?_|refine blk_alloc ?_ _));exact BK525.out)):gb525≠gb532))
           have n13_:=Aside0.mk ((by rw [hg];exact Nat.ne_of_gt (blk_lt (g:=gb525) (o:=.cells #[.bool false,.slice none 0 0] 38 (0,0)) (by (with_reducible repeat (first|refine blk_drewN ?_ _|refine blk_drew ?_|refine blk_alloc ?_ _));exact BK525.out)):gb532≠gb525))
           clear HO528
           clear BK523
           clear BK524
           clear BK525
           clear HB
           have HO528:=n0_
           have BK523:=n1_
           have BK524:=n2_
           have BK525:=n3_
           have HB:=n4_
           have BK532:=n5_
           have GW532:=n6_
           have GE532:=n7_
           have NB523_532:=n8_
           have NB532_523:=n9_
           have NB524_532:=n10_
           have NB532_524:=n11_
           have NB525_532:=n12_
           have NB532_525:=n13_
           clear n0_ n1_ n2_ n3_ n4_ n5_ n6_ n7_ n8_ n9_ n10_ n11_ n12_ n13_
           clear hb hbox hg
           refine hK.out _ _ ⟨(blk_cell BK523.out 0).trans rfl,(blk_cell BK523.out 1).trans rfl,(blk_cell BK524.out 0).trans rfl,(blk_cell BK524.out 1).trans rfl⟩ (fun hHeld=>?_)
           clear hK K
           refine norm_ (a':=?_) ?_ ?_
           rotate_left
           ·show Act.put _ (some 5) _=_
            simp only [Act.put,List.setIfInBounds_toArray,List.set_cons_zero,List.set_cons_succ,i64_w,i32_w]
            rfl
           exact norm_ (by first|(simp only [putAll,Act.put,List.setIfInBounds_toArray,List.set_cons_zero,List.set_cons_succ];done)|(simp only [putAll,Act.put,List.setIfInBounds_toArray,List.set_cons_zero,List.set_cons_succ];rfl)) (hJ2_6 (v527,gb532) _ ⟨hHeld,(by (with_reducible repeat (first|apply rA_|apply rN_|apply rD_));exact HO528.out),(by (with_reducible repeat (first|refine blk_drewN ?_ _|refine blk_drew ?_|refine blk_alloc ?_ _));exact BK523.out),(by (with_reducible repeat (first|refine blk_drewN ?_ _|refine blk_drew ?_|refine blk_alloc ?_ _));exact BK524.out),(by (with_reducible repeat (first|refine blk_drewN ?_ _|refine blk_drew ?_|refine blk_alloc ?_ _));exact BK525.out),(by (with_reducible repeat (first|refine blk_drewN ?_ _|refine blk_drew ?_|refine blk_alloc ?_ _));exact BK532.out),GW532.out,GE532.out,NB523_532.out,NB532_523.out,NB524_532.out,NB532_524.out,NB525_532.out,NB532_525.out,(by repeat (first|(with_reducible first|exact HB.out|apply bA_|apply bN_|apply bD_|refine below_set ?_ GE523.out|refine below_set ?_ GE524.out|refine below_set ?_ GE525.out|refine below_set ?_ GE532.out)|exact HB.out))⟩)
          ·skip
           refine box_step ?hg (N:=6) ?hd (cs:=#[.slice none 0 0]) (t:=87) ?hr ?_;(case hd=>rfl);(case hg=>rfl);(case hr=>first|(go_simp;done)|(go_simp;rfl))
           intro gb533 hg w12 hbox hb
           have n0_:=Aside0.mk (Kd.R_below (by (with_reducible repeat (first|apply rA_|apply rN_|apply rD_));exact HO528.out) hb)
           have n1_:=Aside0.mk (blk_below (g:=gb523) (o:=.cells #[.bool a0_0,.slice A0_1 l0_1.length c0_1] 38 (0,0)) (by (with_reducible repeat (first|refine blk_drewN ?_ _|refine blk_drew ?_|refine blk_alloc ?_ _));exact BK523.out) hb)
           have n2_:=Aside0.mk (blk_below (g:=gb524) (o:=.cells #[.bool a1_0,.slice A1_1 l1_1.length c1_1] 38 (0,0)) (by (with_reducible repeat (first|refine blk_drewN ?_ _|refine blk_drew ?_|refine blk_alloc ?_ _));exact BK524.out) hb)
           have n3_:=Aside0.mk (blk_below (g:=gb525) (o:=.cells #[.bool false,.slice none 0 0] 38 (0,0)) (by (with_reducible repeat (first|refine blk_drewN ?_ _|refine blk_drew ?_|refine blk_alloc ?_ _));exact BK525.out) hb)
           have n4_:=Aside0.mk (below_step (by repeat (first|(with_reducible first|exact HB.out|apply bA_|apply bN_|apply bD_|refine below_set ?_ GE523.out|refine below_set ?_ GE524.out|refine below_set ?_ GE525.out)|exact HB.out)) hb)
           have n5_:=Aside0.mk (hbox)
           have n6_:=Aside0.mk ((by rw [hg];exact (below_size (by repeat (first|(with_reducible first|exact HB.out|apply bA_|apply bN_|apply bD_|refine below_set ?_ GE523.out|refine below_set ?_ GE524.out|refine below_set ?_ GE525.out)|exact HB.out))):w.heap.size≤gb533))
           have n7_:=Aside0.mk ((by rw [hg];exact (below_size (by repeat (first|(with_reducible first|exact HB.out|apply bA_|apply bN_|apply bD_|refine below_set ?_ GE523.out|refine below_set ?_ GE524.out|refine below_set ?_ GE525.out)|exact HB.out))):w.heap.size≤gb533))
           have n8_:=Aside0.mk ((by rw [hg];exact Nat.ne_of_lt (blk_lt (g:=gb523) (o:=.cells #[.bool a0_0,.slice A0_1 l0_1.length c0_1] 38 (0,0)) (by (with_reducible repeat (first|refine blk_drewN ?_ _|refine blk_drew ?_|refine blk_alloc ?_ _));exact BK523.out)):gb523≠gb533))
           have n9_:=Aside0.mk ((by rw [hg];exact Nat.ne_of_gt (blk_lt (g:=gb523) (o:=.cells #[.bool a0_0,.slice A0_1 l0_1.length c0_1] 38 (0,0)) (by (with_reducible repeat (first|refine blk_drewN ?_ _|refine blk_drew ?_|refine blk_alloc ?_ _));exact BK523.out)):gb533≠gb523))
           have n10_:=Aside0.mk ((by rw [hg];exact Nat.ne_of_lt (blk_lt (g:=gb524) (o:=.cells #[.bool a1_0,.slice A1_1 l1_1.length c1_1] 38 (0,0)) (by (with_reducible repeat (first|refine blk_drewN ?_ _|refine blk_drew ?_|refine blk_alloc ?_ _));exact BK524.out)):gb524≠gb533))
           have n11_:=Aside0.mk ((by rw [hg];exact Nat.ne_of_gt (blk_lt (g:=gb524) (o:=.cells #[.bool a1_0,.slice A1_1 l1_1.length c1_1] 38 (0,0)) (by (with_reducible repeat (first|refine blk_drewN ?_ _|refine blk_drew ?_|refine blk_alloc ?_ _));exact BK524.out)):gb533≠gb524))
           have n12_:=Aside0.mk ((by rw [hg];exact Nat.ne_of_lt (blk_lt (g:=gb525) (o:=.cells #[.bool false,.slice none 0 0] 38 (0,0)) (by (with_reducible repeat (first|refine blk_drewN ?_ _|refine blk_drew ?_|refine blk_alloc ?_ _));exact BK525.out)):gb525≠gb533))
           have n13_:=Aside0.mk ((by rw [hg];exact Nat.ne_of_gt (blk_lt (g:=gb525) (o:=.cells #[.bool false,.slice none 0 0] 38 (0,0)) (by (with_reducible repeat (first|refine blk_drewN ?_ _|refine blk_drew ?_|refine blk_alloc ?_ _));exact BK525.out)):gb533≠gb525))
           clear HO528
           clear BK523
           clear BK524
           clear BK525
           clear HB
           have HO528:=n0_
           have BK523:=n1_
           have BK524:=n2_
           have BK525:=n3_
           have HB:=n4_
           have BK533:=n5_
           have GW533:=n6_
           have GE533:=n7_
           have NB523_533:=n8_
           have NB533_523:=n9_
           have NB524_533:=n10_
           have NB533_524:=n11_
           have NB525_533:=n12_
           have NB533_525:=n13_
           clear n0_ n1_ n2_ n3_ n4_ n5_ n6_ n7_ n8_ n9_ n10_ n11_ n12_ n13_
           clear hb hbox hg
           refine hK.out _ _ ⟨(blk_cell BK523.out 0).trans rfl,(blk_cell BK523.out 1).trans rfl,(blk_cell BK524.out 0).trans rfl,(blk_cell BK524.out 1).trans rfl⟩ (fun hHeld=>?_)
           clear hK K
           refine norm_ (a':=?_) ?_ ?_
           rotate_left
           ·show Act.put _ (some 6) _=_
            simp only [Act.put,List.setIfInBounds_toArray,List.set_cons_zero,List.set_cons_succ,i64_w,i32_w]
            rfl
           exact norm_ (by first|(simp only [putAll,Act.put,List.setIfInBounds_toArray,List.set_cons_zero,List.set_cons_succ];done)|(simp only [putAll,Act.put,List.setIfInBounds_toArray,List.set_cons_zero,List.set_cons_succ];rfl)) (hJ2_7 (v527,gb533) _ ⟨hHeld,(by (with_reducible repeat (first|apply rA_|apply rN_|apply rD_));exact HO528.out),(by (with_reducible repeat (first|refine blk_drewN ?_ _|refine blk_drew ?_|refine blk_alloc ?_ _));exact BK523.out),(by (with_reducible repeat (first|refine blk_drewN ?_ _|refine blk_drew ?_|refine blk_alloc ?_ _));exact BK524.out),(by (with_reducible repeat (first|refine blk_drewN ?_ _|refine blk_drew ?_|refine blk_alloc ?_ _));exact BK525.out),(by (with_reducible repeat (first|refine blk_drewN ?_ _|refine blk_drew ?_|refine blk_alloc ?_ _));exact BK533.out),GW533.out,GE533.out,NB523_533.out,NB533_523.out,NB524_533.out,NB533_524.out,NB525_533.out,NB533_525.out,(by repeat (first|(with_reducible first|exact HB.out|apply bA_|apply bN_|apply bD_|refine below_set ?_ GE523.out|refine below_set ?_ GE524.out|refine below_set ?_ GE525.out|refine below_set ?_ GE533.out)|exact HB.out))⟩)
        ·skip
         rintro ⟨gb532,gb533⟩ w12 ⟨hS_,h0_,h1_,h2_,h3_,h4_,h5_,h6_,h7_,h8_,h9_,h10_,h11_,h12_,h13_,h14_,h15_,h16_,h17_,h18_,h19_,h20_,h21_,h22_,h23_⟩
         have n0_:Aside0 (w12.heap[gb523]? = some (.cells #[.bool a0_0,.slice A0_1 l0_1.length c0_1] 38 (0,0))):=⟨h0_⟩
         have n1_:Aside0 (w12.heap[gb524]? = some (.cells #[.bool a1_0,.slice A1_1 l1_1.length c1_1] 38 (0,0))):=⟨h1_⟩
         have n2_:Aside0 (w12.heap[gb525]? = some (.cells #[.bool false,.slice none 0 0] 38 (0,0))):=⟨h2_⟩
         have n3_:Aside0 (w12.heap[gb532]? = some (.cells #[.slice none 0 0] 87 (0,0))):=⟨h3_⟩
         have n4_:Aside0 (w12.heap[gb533]? = some (.cells #[.slice none 0 0] 87 (0,0))):=⟨h4_⟩
         have n5_:Aside0 (w.heap.size≤gb532):=⟨h5_⟩
         have n6_:Aside0 (w.heap.size≤gb532):=⟨h6_⟩
         have n7_:Aside0 (gb523≠gb532):=⟨h7_⟩
         have n8_:Aside0 (gb532≠gb523):=⟨h8_⟩
         have n9_:Aside0 (gb524≠gb532):=⟨h9_⟩
         have n10_:Aside0 (gb532≠gb524):=⟨h10_⟩
         have n11_:Aside0 (gb525≠gb532):=⟨h11_⟩
         have n12_:Aside0 (gb532≠gb525):=⟨h12_⟩
         have n13_:Aside0 (gb533≠gb532):=⟨h13_⟩
         have n14_:Aside0 (gb532≠gb533):=⟨h14_⟩
         have n15_:Aside0 (w.heap.size≤gb533):=⟨h15_⟩
         have n16_:Aside0 (w.heap.size≤gb533):=⟨h16_⟩
         have n17_:Aside0 (gb523≠gb533):=⟨h17_⟩
         have n18_:Aside0 (gb533≠gb523):=⟨h18_⟩
         have n19_:Aside0 (gb524≠gb533):=⟨h19_⟩
         have n20_:Aside0 (gb533≠gb524):=⟨h20_⟩
         have n21_:Aside0 (gb525≠gb533):=⟨h21_⟩
         have n22_:Aside0 (gb533≠gb525):=⟨h22_⟩
         have n23_:Aside0 (Below w.heap.size w w12):=⟨h23_⟩
         clear BK523
         clear BK524
         clear BK525
         clear HB
         clear h0_ h1_ h2_ h3_ h4_ h5_ h6_ h7_ h8_ h9_ h10_ h11_ h12_ h13_ h14_ h15_ h16_ h17_ h18_ h19_ h20_ h21_ h22_ h23_
         have BK523:=n0_
         have BK524:=n1_
         have BK525:=n2_
         have BK532:=n3_
         have BK533:=n4_
         have GW532:=n5_
         have GE532:=n6_
         have NB523_532:=n7_
         have NB532_523:=n8_
         have NB524_532:=n9_
         have NB532_524:=n10_
         have NB525_532:=n11_
         have NB532_525:=n12_
         have NB533_532:=n13_
         have NB532_533:=n14_
         have GW533:=n15_
         have GE533:=n16_
         have NB523_533:=n17_
         have NB533_523:=n18_
         have NB524_533:=n19_
         have NB533_524:=n20_
         have NB525_533:=n21_
         have NB533_525:=n22_
         have HB:=n23_
         clear n0_ n1_ n2_ n3_ n4_ n5_ n6_ n7_ n8_ n9_ n10_ n11_ n12_ n13_ n14_ n15_ n16_ n17_ n18_ n19_ n20_ n21_ n22_ n23_
         have hHeld:w12.cell? ⟨gb523,0,none⟩=some (.bool a0_0)∧w12.cell? ⟨gb523,1,none⟩=some (.slice A0_1 l0_1.length c0_1)∧w12.cell? ⟨gb524,0,none⟩=some (.bool a1_0)∧w12.cell? ⟨gb524,1,none⟩=some (.slice A1_1 l1_1.length c1_1):=hS_
         refine norm_ (a':=?_) ?_ ?_
         rotate_left
         ·simp only [putAll,Act.put,List.setIfInBounds_toArray,List.set_cons_zero,List.set_cons_succ]
          rfl
         refine one_ (i:=2) (N:=some 9) #[true,true,true,true,true,false,true,true,false,false] rfl rfl (one_of HT_.out (by kernel_rfl)) (by decide) (fun K hK=>?_)
         refine goes_ Try.func61 (by kernel_rfl) rfl #[.slice A0_1 l0_1.length c0_1] (by rfl) rfl rfl (by (try simp only [List.map_toArray,List.map_cons,List.map_nil]);first|done|rfl|(simp only [List.length_drop,List.length_take];rfl)) ?_
         with_reducible refine (names_of_string.calls _ _ l0_1 t526 _ ?side1 ?side2 A3.out).mono ?_
         (case side1=>repeat (first|exact (Kd.C_below HR0_1.out HB.out)|(with_reducible refine cA_ ?_ _)|(with_reducible refine cN_ ?_ _)|(with_reducible refine cD_ ?_)))
         (case side2=>exact HC0_1.out)
         rintro e w13 ⟨v527,rfl,ho0,hb⟩
         refine ⟨_,rfl,?_⟩
         have n0_:=Aside0.mk (Kd.R_lower ho0 (below_size (by repeat (first|(with_reducible first|exact HB.out|apply bA_|apply bN_|apply bD_|refine below_set ?_ GE523.out|refine below_set ?_ GE524.out|refine below_set ?_ GE525.out|refine below_set ?_ GE532.out|refine below_set ?_ GE533.out)|exact HB.out))))
         have n1_:=Aside0.mk (blk_below (g:=gb523) (o:=.cells #[.bool a0_0,.slice A0_1 l0_1.length c0_1] 38 (0,0)) (by (with_reducible repeat (first|refine blk_drewN ?_ _|refine blk_drew ?_|refine blk_alloc ?_ _));exact BK523.out) hb)
         have n2_:=Aside0.mk (blk_below (g:=gb524) (o:=.cells #[.bool a1_0,.slice A1_1 l1_1.length c1_1] 38 (0,0)) (by (with_reducible repeat (first|refine blk_drewN ?_ _|refine blk_drew ?_|refine blk_alloc ?_ _));exact BK524.out) hb)
         have n3_:=Aside0.mk (blk_below (g:=gb525) (o:=.cells #[.bool false,.slice none 0 0] 38 (0,0)) (by (with_reducible repeat (first|refine blk_drewN ?_ _|refine blk_drew ?_|refine blk_alloc ?_ _));exact BK525.out) hb)
         have n4_:=Aside0.mk (blk_below (g:=gb532) (o:=.cells #[.slice none 0 0] 87 (0,0)) (by (with_reducible repeat (first|refine blk_drewN ?_ _|refine blk_drew ?_|refine blk_alloc ?_ _));exact BK532.out) hb)
         have n5_:=Aside0.mk (blk_below (g:=gb533) (o:=.cells #[.slice none 0 0] 87 (0,0)) (by (with_reducible repeat (first|refine blk_drewN ?_ _|refine blk_drew ?_|refine blk_alloc ?_ _));exact BK533.out) hb)
         have n6_:=Aside0.mk (below_step (by repeat (first|(with_reducible first|exact HB.out|apply bA_|apply bN_|apply bD_|refine below_set ?_ GE523.out|refine below_set ?_ GE524.out|refine below_set ?_ GE525.out|refine below_set ?_ GE532.out|refine below_set ?_ GE533.out)|exact HB.out)) hb)
         clear BK523
         clear BK524
         clear BK525
         clear BK532
         clear BK533
         clear HB
         have HO528:=n0_
         have BK523:=n1_
         have BK524:=n2_
         have BK525:=n3_
         have BK532:=n4_
         have BK533:=n5_
         have HB:=n6_
         clear n0_ n1_ n2_ n3_ n4_ n5_ n6_
         (try clear hb)
         (try clear hb2)
         (try clear hk)
         (try clear hi)
         (try clear ho0)
         refine hK.out _ _ ⟨(blk_cell BK523.out 0).trans rfl,(blk_cell BK523.out 1).trans rfl,(blk_cell BK524.out 0).trans rfl,(blk_cell BK524.out 1).trans rfl⟩ (fun hHeld=>?_)
         clear hK K
         refine norm_ (a':=?_) ?_ ?_
         rotate_left
         ·show Act.put _ (some 9) _=_
          simp only [Act.put,List.setIfInBounds_toArray,List.set_cons_zero,List.set_cons_succ,i64_w,i32_w]
          rfl
         exact norm_ (by first|(simp only [putAll,Act.put,List.setIfInBounds_toArray,List.set_cons_zero,List.set_cons_succ];done)|(simp only [putAll,Act.put,List.setIfInBounds_toArray,List.set_cons_zero,List.set_cons_succ];rfl)) (hJ2_6_7 (v527,gb532,gb533) _ ⟨hHeld,(by (with_reducible repeat (first|apply rA_|apply rN_|apply rD_));exact HO528.out),(by (with_reducible repeat (first|refine blk_drewN ?_ _|refine blk_drew ?_|refine blk_alloc ?_ _));exact BK523.out),(by (with_reducible repeat (first|refine blk_drewN ?_ _|refine blk_drew ?_|refine blk_alloc ?_ _));exact BK524.out),(by (with_reducible repeat (first|refine blk_drewN ?_ _|refine blk_drew ?_|refine blk_alloc ?_ _));exact BK525.out),(by (with_reducible repeat (first|refine blk_drewN ?_ _|refine blk_drew ?_|refine blk_alloc ?_ _));exact BK532.out),(by (with_reducible repeat (first|refine blk_drewN ?_ _|refine blk_drew ?_|refine blk_alloc ?_ _));exact BK533.out),GW532.out,GE532.out,NB523_532.out,NB532_523.out,NB524_532.out,NB532_524.out,NB525_532.out,NB532_525.out,NB533_532.out,NB532_533.out,GW533.out,GE533.out,NB523_533.out,NB533_523.out,NB524_533.out,NB533_524.out,NB525_533.out,NB533_525.out,(by repeat (first|(with_reducible first|exact HB.out|apply bA_|apply bN_|apply bD_|refine below_set ?_ GE523.out|refine below_set ?_ GE524.out|refine below_set ?_ GE525.out|refine below_set ?_ GE532.out|refine below_set ?_ GE533.out)|exact HB.out))⟩)
       ·skip
        rintro ⟨v527,gb533⟩ w12 ⟨hS_,h0_,h1_,h2_,h3_,h4_,h5_,h6_,h7_,h8_,h9_,h10_,h11_,h12_,h13_⟩
        have n0_:Aside0 (Kd.R Kd.string 9 w12 w.heap.size (fun _=>True) v527 t526):=⟨h0_⟩
        have n1_:Aside0 (w12.heap[gb523]? = some (.cells #[.bool a0_0,.slice A0_1 l0_1.length c0_1] 38 (0,0))):=⟨h1_⟩
        have n2_:Aside0 (w12.heap[gb524]? = some (.cells #[.bool a1_0,.slice A1_1 l1_1.length c1_1] 38 (0,0))):=⟨h2_⟩
        have n3_:Aside0 (w12.heap[gb525]? = some (.cells #[.bool false,.slice none 0 0] 38 (0,0))):=⟨h3_⟩
        have n4_:Aside0 (w12.heap[gb533]? = some (.cells #[.slice none 0 0] 87 (0,0))):=⟨h4_⟩
        have n5_:Aside0 (w.heap.size≤gb533):=⟨h5_⟩
        have n6_:Aside0 (w.heap.size≤gb533):=⟨h6_⟩
        have n7_:Aside0 (gb523≠gb533):=⟨h7_⟩
        have n8_:Aside0 (gb533≠gb523):=⟨h8_⟩
        have n9_:Aside0 (gb524≠gb533):=⟨h9_⟩
        have n10_:Aside0 (gb533≠gb524):=⟨h10_⟩
        have n11_:Aside0 (gb525≠gb533):=⟨h11_⟩
        have n12_:Aside0 (gb533≠gb525):=⟨h12_⟩
        have n13_:Aside0 (Below w.heap.size w w12):=⟨h13_⟩
        clear BK523
        clear BK524
        clear BK525
        clear HB
        clear h0_ h1_ h2_ h3_ h4_ h5_ h6_ h7_ h8_ h9_ h10_ h11_ h12_ h13_
        have HO528:=n0_
        have BK523:=n1_
        have BK524:=n2_
        have BK525:=n3_
        have BK533:=n4_
        have GW533:=n5_
        have GE533:=n6_
        have NB523_533:=n7_
        have NB533_523:=n8_
        have NB524_533:=n9_
        have NB533_524:=n10_
        have NB525_533:=n11_
        have NB533_525:=n12_
        have HB:=n13_
        clear n0_ n1_ n2_ n3_ n4_ n5_ n6_ n7_ n8_ n9_ n10_ n11_ n12_ n13_
        have hHeld:w12.cell? ⟨gb523,0,none⟩=some (.bool a0_0)∧w12.cell? ⟨gb523,1,none⟩=some (.slice A0_1 l0_1.length c0_1)∧w12.cell? ⟨gb524,0,none⟩=some (.bool a1_0)∧w12.cell? ⟨gb524,1,none⟩=some (.slice A1_1 l1_1.length c1_1):=hS_
        refine norm_ (a':=?_) ?_ ?_
        rotate_left
        ·simp only [putAll,Act.put,List.setIfInBounds_toArray,List.set_cons_zero,List.set_cons_succ]
         rfl
        refine two_ (i:=5) (j:=6) (Ni:=some 12) (Nj:=some 5) #[true,true,true,true,true,true,false,true,false,false] #[true,true,true,true,true,false,true,true,false,false] rfl rfl rfl rfl (two_of HT_.out (by kernel_rfl)) (by decide) (by decide) (fun K hK=>?_) (fun K hK=>?_)
        ·skip
         refine goes_ Try.func61 (by kernel_rfl) rfl #[.slice A1_1 l1_1.length c1_1] (by rfl) rfl rfl (by (try simp only [List.map_toArray,List.map_cons,List.map_nil]);first|done|rfl|(simp only [List.length_drop,List.length_take];rfl)) ?_
         with_reducible refine (names_of_string.calls _ _ l1_1 t529 _ ?side1 ?side2 A4.out).mono ?_
         (case side1=>repeat (first|exact (Kd.C_below HR1_1.out HB.out)|(with_reducible refine cA_ ?_ _)|(with_reducible refine cN_ ?_ _)|(with_reducible refine cD_ ?_)))
         (case side2=>exact HC1_1.out)
         rintro e w13 ⟨v530,rfl,ho0,hb⟩
         refine ⟨_,rfl,?_⟩
         have n0_:=Aside0.mk (Kd.R_elder' (by (with_reducible repeat (first|apply rA_|apply rN_|apply rD_));exact HO528.out) (Kd.R_base ho0) hb)
         have n1_:=Aside0.mk (Kd.R_lower (Kd.R_new' ho0 (Kd.R_lt (by (with_reducible repeat (first|apply rA_|apply rN_|apply rD_));exact HO528.out))) (below_size (by repeat (first|(with_reducible first|exact HB.out|apply bA_|apply bN_|apply bD_|refine below_set ?_ GE523.out|refine below_set ?_ GE524.out|refine below_set ?_ GE525.out|refine below_set ?_ GE533.out)|exact HB.out))))
         have n2_:=Aside0.mk (blk_below (g:=gb523) (o:=.cells #[.bool a0_0,.slice A0_1 l0_1.length c0_1] 38 (0,0)) (by (with_reducible repeat (first|refine blk_drewN ?_ _|refine blk_drew ?_|refine blk_alloc ?_ _));exact BK523.out) hb)
         have n3_:=Aside0.mk (blk_below (g:=gb524) (o:=.cells #[.bool a1_0,.slice A1_1 l1_1.length c1_1] 38 (0,0)) (by (with_reducible repeat (first|refine blk_drewN ?_ _|refine blk_drew ?_|refine blk_alloc ?_ _));exact BK524.out) hb)
         have n4_:=Aside0.mk (blk_below (g:=gb525) (o:=.cells #[.bool false,.slice none 0 0] 38 (0,0)) (by (with_reducible repeat (first|refine blk_drewN ?_ _|refine blk_drew ?_|refine blk_alloc ?_ _));exact BK525.out) hb)
         have n5_:=Aside0.mk (blk_below (g:=gb533) (o:=.cells #[.slice none 0 0] 87 (0,0)) (by (with_reducible repeat (first|refine blk_drewN ?_ _|refine blk_drew ?_|refine blk_alloc ?_ _));exact BK533.out) hb)
         have n6_:=Aside0.mk (below_step (by repeat (first|(with_reducible first|exact HB.out|apply bA_|apply bN_|apply bD_|refine below_set ?_ GE523.out|refine below_set ?_ GE524.out|refine below_set ?_ GE525.out|refine below_set ?_ GE533.out)|exact HB.out)) hb)
         clear HO528
         clear BK523
         clear BK524
         clear BK525
         clear BK533
         clear HB
         have HO528:=n0_
         have HO531:=n1_
         have BK523:=n2_
         have BK524:=n3_
         have BK525:=n4_
         have BK533:=n5_
         have HB:=n6_
         clear n0_ n1_ n2_ n3_ n4_ n5_ n6_
         (try clear hb)
         (try clear hb2)
         (try clear hk)
         (try clear hi)
         (try clear ho0)
         refine hK.out _ _ ⟨(blk_cell BK523.out 0).trans rfl,(blk_cell BK523.out 1).trans rfl,(blk_cell BK524.out 0).trans rfl,(blk_cell BK524.out 1).trans rfl⟩ (fun hHeld=>?_)
         clear hK K
         refine norm_ (a':=?_) ?_ ?_
         rotate_left
         ·show Act.put _ (some 12) _=_
          simp only [Act.put,List.setIfInBounds_toArray,List.set_cons_zero,List.set_cons_succ,i64_w,i32_w]
          rfl
         exact norm_ (by first|(simp only [putAll,Act.put,List.setIfInBounds_toArray,List.set_cons_zero,List.set_cons_succ];done)|(simp only [putAll,Act.put,List.setIfInBounds_toArray,List.set_cons_zero,List.set_cons_succ];rfl)) (hJ2_5_7 (v527,v530,gb533) _ ⟨hHeld,(by (with_reducible repeat (first|apply rA_|apply rN_|apply rD_));exact Kd.R_mono HO528.out (fun _ hk=>hk.2)),(by (with_reducible repeat (first|apply rA_|apply rN_|apply rD_));exact Kd.R_mono HO531.out (fun _ hk=>hk.2)),(by (with_reducible repeat (first|refine blk_drewN ?_ _|refine blk_drew ?_|refine blk_alloc ?_ _));exact BK523.out),(by (with_reducible repeat (first|refine blk_drewN ?_ _|refine blk_drew ?_|refine blk_alloc ?_ _));exact BK524.out),(by (with_reducible repeat (first|refine blk_drewN ?_ _|refine blk_drew ?_|refine blk_alloc ?_ _));exact BK525.out),(by (with_reducible repeat (first|refine blk_drewN ?_ _|refine blk_drew ?_|refine blk_alloc ?_ _));exact BK533.out),GW533.out,GE533.out,NB523_533.out,NB533_523.out,NB524_533.out,NB533_524.out,NB525_533.out,NB533_525.out,(by repeat (first|(with_reducible first|exact HB.out|apply bA_|apply bN_|apply bD_|refine below_set ?_ GE523.out|refine below_set ?_ GE524.out|refine below_set ?_ GE525.out|refine below_set ?_ GE533.out)|exact HB.out))⟩)
        ·skip
         refine box_step ?hg (N:=5) ?hd (cs:=#[.slice none 0 0]) (t:=87) ?hr ?_;(case hd=>rfl);(case hg=>rfl);(case hr=>first|(go_simp;done)|(go_simp;rfl))
         intro gb532 hg w13 hbox hb
         have n0_:=Aside0.mk (Kd.R_below (by (with_reducible repeat (first|apply rA_|apply rN_|apply rD_));exact HO528.out) hb)
         have n1_:=Aside0.mk (blk_below (g:=gb523) (o:=.cells #[.bool a0_0,.slice A0_1 l0_1.length c0_1] 38 (0,0)) (by (with_reducible repeat (first|refine blk_drewN ?_ _|refine blk_drew ?_|refine blk_alloc ?_ _));exact BK523.out) hb)
         have n2_:=Aside0.mk (blk_below (g:=gb524) (o:=.cells #[.bool a1_0,.slice A1_1 l1_1.length c1_1] 38 (0,0)) (by (with_reducible repeat (first|refine blk_drewN ?_ _|refine blk_drew ?_|refine blk_alloc ?_ _));exact BK524.out) hb)
         have n3_:=Aside0.mk (blk_below (g:=gb525) (o:=.cells #[.bool false,.slice none 0 0] 38 (0,0)) (by (with_reducible repeat (first|refine blk_drewN ?_ _|refine blk_drew ?_|refine blk_alloc ?_ _));exact BK525.out) hb)
         have n4_:=Aside0.mk (blk_below (g:=gb533) (o:=.cells #[.slice none 0 0] 87 (0,0)) (by (with_reducible repeat (first|refine blk_drewN ?_ _|refine blk_drew ?_|refine blk_alloc ?_ _));exact BK533.out) hb)
         have n5_:=Aside0.mk (below_step (by repeat (first|(with_reducible first|exact HB.out|apply bA_|apply bN_|apply bD_|refine below_set ?_ GE523.out|refine below_set ?_ GE524.out|refine below_set ?_ GE525.out|refine below_set ?_ GE533.out)|exact HB.out)) hb)
         have n6_:=Aside0.mk (hbox)
         have n7_:=Aside0.mk ((by rw [hg];exact (below_size (by repeat (first|(with_reducible first|exact HB.out|apply bA_|apply bN_|apply bD_|refine below_set ?_ GE523.out|refine below_set ?_ GE524.out|refine below_set ?_ GE525.out|refine below_set ?_ GE533.out)|exact HB.out))):w.heap.size≤gb532))
         have n8_:=Aside0.mk ((by rw [hg];exact (below_size (by repeat (first|(with_reducible first|exact HB.out|apply bA_|apply bN_|apply bD_|refine below_set ?_ GE523.out|refine below_set ?_ GE524.out|refine below_set ?_ GE525.out|refine below_set ?_ GE533.out)|exact HB.out))):w.heap.size≤gb532))
         have n9_:=Aside0.mk ((by rw [hg];exact Nat.ne_of_lt (blk_lt (g:=gb523) (o:=.cells #[.bool a0_0,.slice A0_1 l0_1.length c0_1] 38 (0,0)) (by (with_reducible repeat (first|refine blk_drewN ?_ _|refine blk_drew ?_|refine blk_alloc ?_ _));exact BK523.out)):gb523≠gb532))
         have n10_:=Aside0.mk ((by rw [hg];exact Nat.ne_of_gt (blk_lt (g:=gb523) (o:=.cells #[.bool a0_0,.slice A0_1 l0_1.length c0_1] 38 (0,0)) (by (with_reducible repeat (first|refine blk_drewN ?_ _|refine blk_drew ?_|refine blk_alloc ?_ _));exact BK523.out)):gb532≠gb523))
         have n11_:=Aside0.mk ((by rw [hg];exact Nat.ne_of_lt (blk_lt (g:=gb524) (o:=.cells #[.bool a1_0,.slice A1_1 l1_1.length c1_1] 38 (0,0)) (by (with_reducible repeat (first|refine blk_drewN ?_ _|refine blk_drew ?_|refine blk_alloc ?_ _));exact BK524.out)):gb524≠gb532))
         have n12_:=Aside0.mk ((by rw [hg];exact Nat.ne_of_gt (blk_lt (g:=gb524) (o:=.cells #[.bool a1_0,.slice A1_1 l1_1.length c1_1] 38 (0,0)) (by (with_reducible repeat (first|refine blk_drewN ?_ _|refine blk_drew ?_|refine blk_alloc ?_ _));exact BK524.out)):gb532≠gb524))
         have n13_:=Aside0.mk ((by rw [hg];exact Nat.ne_of_lt (blk_lt (g:=gb525) (o:=.cells #[.bool false,.slice none 0 0] 38 (0,0)) (by (with_reducible repeat (first|refine blk_drewN ?_ _|refine blk_drew ?_|refine blk_alloc ?_ _));exact BK525.out)):gb525≠gb532))
         have n14_:=Aside0.mk ((by rw [hg];exact Nat.ne_of_gt (blk_lt (g:=gb525) (o:=.cells #[.bool false,.slice none 0 0] 38 (0,0)) (by (with_reducible repeat (first|refine blk_drewN ?_ _|refine blk_drew ?_|refine blk_alloc ?_ _));exact BK525.out)):gb532≠gb525))
         have n15_:=Aside0.mk ((by rw [hg];exact Nat.ne_of_lt (blk_lt (g:=gb533) (o:=.cells #[.slice none 0 0] 87 (0,0)) (by (with_reducible repeat (first|refine blk_drewN ?_ _|refine blk_drew ?_|refine blk_alloc ?_ _));exact BK533.out)):gb533≠gb532))
         have n16_:=Aside0.mk ((by rw [hg];exact Nat.ne_of_gt (blk_lt (g:=gb533) (o:=.cells #[.slice none 0 0] 87 (0,0)) (by (with_reducible repeat (first|refine blk_drewN ?_ _|refine blk_drew ?_|refine blk_alloc ?_ _));exact BK533.out)):gb532≠gb533))
         clear HO528
         clear BK523
         clear BK524
         clear BK525
         clear BK533
         clear HB
         have HO528:=n0_
         have BK523:=n1_
         have BK524:=n2_
         have BK525:=n3_
         have BK533:=n4_
         have HB:=n5_
         have BK532:=n6_
         have GW532:=n7_
         have GE532:=n8_
         have NB523_532:=n9_
         have NB532_523:=n10_
         have NB524_532:=n11_
         have NB532_524:=n12_
         have NB525_532:=n13_
         have NB532_525:=n14_
         have NB533_532:=n15_
         have NB532_533:=n16_
         clear n0_ n1_ n2_ n3_ n4_ n5_ n6_ n7_ n8_ n9_ n10_ n11_ n12_ n13_ n14_ n15_ n16_
         clear hb hbox hg
         refine hK.out _ _ ⟨(blk_cell BK523.out 0).trans rfl,(blk_cell BK523.out 1).trans rfl,(blk_cell BK524.out 0).trans rfl,(blk_cell BK524.out 1).trans rfl⟩ (fun hHeld=>?_)
         clear hK K
         refine norm_ (a':=?_) ?_ ?_
         rotate_left
         ·show Act.put _ (some 5) _=_
          simp only [Act.put,List.setIfInBounds_toArray,List.set_cons_zero,List.set_cons_succ,i64_w,i32_w]
          rfl
         exact norm_ (by first|(simp only [putAll,Act.put,List.setIfInBounds_toArray,List.set_cons_zero,List.set_cons_succ];done)|(simp only [putAll,Act.put,List.setIfInBounds_toArray,List.set_cons_zero,List.set_cons_succ];rfl)) (hJ2_6_7 (v527,gb532,gb533) _ ⟨hHeld,(by (with_reducible repeat (first|apply rA_|apply rN_|apply rD_));exact HO528.out),(by (with_reducible repeat (first|refine blk_drewN ?_ _|refine blk_drew ?_|refine blk_alloc ?_ _));exact BK523.out),(by (with_reducible repeat (first|refine blk_drewN ?_ _|refine blk_drew ?_|refine blk_alloc ?_ _));exact BK524.out),(by (with_reducible repeat (first|refine blk_drewN ?_ _|refine blk_drew ?_|refine blk_alloc ?_ _));exact BK525.out),(by (with_reducible repeat (first|refine blk_drewN ?_ _|refine blk_drew ?_|refine blk_alloc ?_ _));exact BK532.out),(by (with_reducible repeat (first|refine blk_drewN ?_ _|refine blk_drew ?_|refine blk_alloc ?_ _));exact BK533.out),GW532.out,GE532.out,NB523_532.out,NB532_523.out,NB524_532.out,NB532_524.out,NB525_532.out,NB532_525.out,NB533_532.out,NB532_533.out,GW533.out,GE533.out,NB523_533.out,NB533_523.out,NB524_533.out,NB533_524.out,NB525_533.out,NB533_525.out,(by repeat (first|(with_reducible first|exact HB.out|apply bA_|apply bN_|apply bD_|refine below_set ?_ GE523.out|refine below_set ?_ GE524.out|refine below_set ?_ GE525.out|refine below_set ?_ GE533.out|refine below_set ?_ GE532.out)|exact HB.out))⟩)
      ·skip
       rintro ⟨v527,gb532⟩ w12 ⟨hS_,h0_,h1_,h2_,h3_,h4_,h5_,h6_,h7_,h8_,h9_,h10_,h11_,h12_,h13_⟩
       have n0_:Aside0 (Kd.R Kd.string 9 w12 w.heap.size (fun _=>True) v527 t526):=⟨h0_⟩
       have n1_:Aside0 (w12.heap[gb523]? = some (.cells #[.bool a0_0,.slice A0_1 l0_1.length c0_1] 38 (0,0))):=⟨h1_⟩
       have n2_:Aside0 (w12.heap[gb524]? = some (.cells #[.bool a1_0,.slice A1_1 l1_1.length c1_1] 38 (0,0))):=⟨h2_⟩
       have n3_:Aside0 (w12.heap[gb525]? = some (.cells #[.bool false,.slice none 0 0] 38 (0,0))):=⟨h3_⟩
       have n4_:Aside0 (w12.heap[gb532]? = some (.cells #[.slice none 0 0] 87 (0,0))):=⟨h4_⟩
       have n5_:Aside0 (w.heap.size≤gb532):=⟨h5_⟩
       have n6_:Aside0 (w.heap.size≤gb532):=⟨h6_⟩
       have n7_:Aside0 (gb523≠gb532):=⟨h7_⟩
       have n8_:Aside0 (gb532≠gb523):=⟨h8_⟩
       have n9_:Aside0 (gb524≠gb532):=⟨h9_⟩
       have n10_:Aside0 (gb532≠gb524):=⟨h10_⟩
       have n11_:Aside0 (gb525≠gb532):=⟨h11_⟩
       have n12_:Aside0 (gb532≠gb525):=⟨h12_⟩
       have n13_:Aside0 (Below w.heap.size w w12):=⟨h13_⟩
       clear BK523
       clear BK524
       clear BK525
       clear HB
       clear h0_ h1_ h2_ h3_ h4_ h5_ h6_ h7_ h8_ h9_ h10_ h11_ h12_ h13_
       have HO528:=n0_
       have BK523:=n1_
       have BK524:=n2_
       have BK525:=n3_
       have BK532:=n4_
       have GW532:=n5_
       have GE532:=n6_
       have NB523_532:=n7_
       have NB532_523:=n8_
       have NB524_532:=n9_
       have NB532_524:=n10_
       have NB525_532:=n11_
       have NB532_525:=n12_
       have HB:=n13_
       clear n0_ n1_ n2_ n3_ n4_ n5_ n6_ n7_ n8_ n9_ n10_ n11_ n12_ n13_
       have hHeld:w12.cell? ⟨gb523,0,none⟩=some (.bool a0_0)∧w12.cell? ⟨gb523,1,none⟩=some (.slice A0_1 l0_1.length c0_1)∧w12.cell? ⟨gb524,0,none⟩=some (.bool a1_0)∧w12.cell? ⟨gb524,1,none⟩=some (.slice A1_1 l1_1.length c1_1):=hS_
       refine norm_ (a':=?_) ?_ ?_
       rotate_left
       ·simp only [putAll,Act.put,List.setIfInBounds_toArray,List.set_cons_zero,List.set_cons_succ]
        rfl
       refine two_ (i:=5) (j:=7) (Ni:=some 12) (Nj:=some 6) #[true,true,true,true,true,true,true,false,false,false] #[true,true,true,true,true,false,true,true,false,false] rfl rfl rfl rfl (two_of HT_.out (by kernel_rfl)) (by decide) (by decide) (fun K hK=>?_) (fun K hK=>?_)
       ·skip
        refine goes_ Try.func61 (by kernel_rfl) rfl #[.slice A1_1 l1_1.length c1_1] (by rfl) rfl rfl (by (try simp only [List.map_toArray,List.map_cons,List.map_nil]);first|done|rfl|(simp only [List.length_drop,List.length_take];rfl)) ?_
        with_reducible refine (names_of_string.calls _ _ l1_1 t529 _ ?side1 ?side2 A4.out).mono ?_
        (case side1=>repeat (first|exact (Kd.C_below HR1_1.out HB.out)|(with_reducible refine cA_ ?_ _)|(with_reducible refine cN_ ?_ _)|(with_reducible refine cD_ ?_)))
        (case side2=>exact HC1_1.out)
        rintro e w13 ⟨v530,rfl,ho0,hb⟩
        refine ⟨_,rfl,?_⟩
        have n0_:=Aside0.mk (Kd.R_elder' (by (with_reducible repeat (first|apply rA_|apply rN_|apply rD_));exact HO528.out) (Kd.R_base ho0) hb)
        have n1_:=Aside0.mk (Kd.R_lower (Kd.R_new' ho0 (Kd.R_lt (by (with_reducible repeat (first|apply rA_|apply rN_|apply rD_));exact HO528.out))) (below_size (by repeat (first|(with_reducible first|exact HB.out|apply bA_|apply bN_|apply bD_|refine below_set ?_ GE523.out|refine below_set ?_ GE524.out|refine below_set ?_ GE525.out|refine below_set ?_ GE532.out)|exact HB.out))))
        have n2_:=Aside0.mk (blk_below (g:=gb523) (o:=.cells #[.bool a0_0,.slice A0_1 l0_1.length c0_1] 38 (0,0)) (by (with_reducible repeat (first|refine blk_drewN ?_ _|refine blk_drew ?_|refine blk_alloc ?_ _));exact BK523.out) hb)
        have n3_:=Aside0.mk (blk_below (g:=gb524) (o:=.cells #[.bool a1_0,.slice A1_1 l1_1.length c1_1] 38 (0,0)) (by (with_reducible repeat (first|refine blk_drewN ?_ _|refine blk_drew ?_|refine blk_alloc ?_ _));exact BK524.out) hb)
        have n4_:=Aside0.mk (blk_below (g:=gb525) (o:=.cells #[.bool false,.slice none 0 0] 38 (0,0)) (by (with_reducible repeat (first|refine blk_drewN ?_ _|refine blk_drew ?_|refine blk_alloc ?_ _));exact BK525.out) hb)
        have n5_:=Aside0.mk (blk_below (g:=gb532) (o:=.cells #[.slice none 0 0] 87 (0,0)) (by (with_reducible repeat (first|refine blk_drewN ?_ _|refine blk_drew ?_|refine blk_alloc ?_ _));exact BK532.out) hb)
        have n6_:=Aside0.mk (below_step (by repeat (first|(with_reducible first|exact HB.out|apply bA_|apply bN_|apply bD_|refine below_set ?_ GE523.out|refine below_set ?_ GE524.out|refine below_set ?_ GE525.out|refine below_set ?_ GE532.out)|exact HB.out)) hb)
        clear HO528
        clear BK523
        clear BK524
        clear BK525
        clear BK532
        clear HB
        have HO528:=n0_
        have HO531:=n1_
        have BK523:=n2_
        have BK524:=n3_
        have BK525:=n4_
        have BK532:=n5_
        have HB:=n6_
        clear n0_ n1_ n2_ n3_ n4_ n5_ n6_
        (try clear hb)
        (try clear hb2)
        (try clear hk)
        (try clear hi)
        (try clear ho0)
        refine hK.out _ _ ⟨(blk_cell BK523.out 0).trans rfl,(blk_cell BK523.out 1).trans rfl,(blk_cell BK524.out 0).trans rfl,(blk_cell BK524.out 1).trans rfl⟩ (fun hHeld=>?_)
        clear hK K
        refine norm_ (a':=?_) ?_ ?_
        rotate_left
        ·show Act.put _ (some 12) _=_
         simp only [Act.put,List.setIfInBounds_toArray,List.set_cons_zero,List.set_cons_succ,i64_w,i32_w]
         rfl
        exact norm_ (by first|(simp only [putAll,Act.put,List.setIfInBounds_toArray,List.set_cons_zero,List.set_cons_succ];done)|(simp only [putAll,Act.put,List.setIfInBounds_toArray,List.set_cons_zero,List.set_cons_succ];rfl)) (hJ2_5_6 (v527,v530,gb532) _ ⟨hHeld,(by (with_reducible repeat (first|apply rA_|apply rN_|apply rD_));exact Kd.R_mono HO528.out (fun _ hk=>hk.2)),(by (with_reducible repeat (first|apply rA_|apply rN_|apply rD_));exact Kd.R_mono HO531.out (fun _ hk=>hk.2)),(by (with_reducible repeat (first|refine blk_drewN ?_ _|refine blk_drew ?_|refine blk_alloc ?_ _));exact BK523.out),(by (with_reducible repeat (first|refine blk_drewN ?_ _|refine blk_drew ?_|refine blk_alloc ?_ _));exact BK524.out),(by (with_reducible repeat (first|refine blk_drewN ?_ _|refine blk_drew ?_|refine blk_alloc ?_ _));exact BK525.out),(by (with_reducible repeat (first|refine blk_drewN ?_ _|refine blk_drew ?_|refine blk_alloc ?_ _));exact BK532.out),GW532.out,GE532.out,NB523_532.out,NB532_523.out,NB524_532.out,NB532_524.out,NB525_532.out,NB532_525.out,(by repeat (first|(with_reducible first|exact HB.out|apply bA_|apply bN_|apply bD_|refine below_set ?_ GE523.out|refine below_set ?_ GE524.out|refine below_set ?_ GE525.out|refine below_set ?_ GE532.out)|exact HB.out))⟩)
       ·skip
        refine box_step ?hg (N:=6) ?hd (cs:=#[.slice none 0 0]) (t:=87) ?hr ?_;(case hd=>rfl);(case hg=>rfl);(case hr=>first|(go_simp;done)|(go_simp;rfl))
        intro gb533 hg w13 hbox hb
        have n0_:=Aside0.mk (Kd.R_below (by (with_reducible repeat (first|apply rA_|apply rN_|apply rD_));exact HO528.out) hb)
        have n1_:=Aside0.mk (blk_below (g:=gb523) (o:=.cells #[.bool a0_0,.slice A0_1 l0_1.length c0_1] 38 (0,0)) (by (with_reducible repeat (first|refine blk_drewN ?_ _|refine blk_drew ?_|refine blk_alloc ?_ _));exact BK523.out) hb)
        have n2_:=Aside0.mk (blk_below (g:=gb524) (o:=.cells #[.bool a1_0,.slice A1_1 l1_1.length c1_1] 38 (0,0)) (by (with_reducible repeat (first|refine blk_drewN ?_ _|refine blk_drew ?_|refine blk_alloc ?_ _));exact BK524.out) hb)
        have n3_:=Aside0.mk (blk_below (g:=gb525) (o:=.cells #[.bool false,.slice none 0 0] 38 (0,0)) (by (with_reducible repeat (first|refine blk_drewN ?_ _|refine blk_drew ?_|refine blk_alloc ?_ _));exact BK525.out) hb)
        have n4_:=Aside0.mk (blk_below (g:=gb532) (o:=.cells #[.slice none 0 0] 87 (0,0)) (by (with_reducible repeat (first|refine blk_drewN ?_ _|refine blk_drew ?_|refine blk_alloc ?_ _));exact BK532.out) hb)
        have n5_:=Aside0.mk (below_step (by repeat (first|(with_reducible first|exact HB.out|apply bA_|apply bN_|apply bD_|refine below_set ?_ GE523.out|refine below_set ?_ GE524.out|refine below_set ?_ GE525.out|refine below_set ?_ GE532.out)|exact HB.out)) hb)
        have n6_:=Aside0.mk (hbox)
        have n7_:=Aside0.mk ((by rw [hg];exact (below_size (by repeat (first|(with_reducible first|exact HB.out|apply bA_|apply bN_|apply bD_|refine below_set ?_ GE523.out|refine below_set ?_ GE524.out|refine below_set ?_ GE525.out|refine below_set ?_ GE532.out)|exact HB.out))):w.heap.size≤gb533))
        have n8_:=Aside0.mk ((by rw [hg];exact (below_size (by repeat (first|(with_reducible first|exact HB.out|apply bA_|apply bN_|apply bD_|refine below_set ?_ GE523.out|refine below_set ?_ GE524.out|refine below_set ?_ GE525.out|refine below_set ?_ GE532.out)|exact HB.out))):w.heap.size≤gb533))
        have n9_:=Aside0.mk ((by rw [hg];exact Nat.ne_of_lt (blk_lt (g:=gb523) (o:=.cells #[.bool a0_0,.slice A0_1 l0_1.length c0_1] 38 (0,0)) (by (with_reducible repeat (first|refine blk_drewN ?_ _|refine blk_drew ?_|refine blk_alloc ?_ _));exact BK523.out)):gb523≠gb533))
        have n10_:=Aside0.mk ((by rw [hg];exact Nat.ne_of_gt (blk_lt (g:=gb523) (o:=.cells #[.bool a0_0,.slice A0_1 l0_1.length c0_1] 38 (0,0)) (by (with_reducible repeat (first|refine blk_drewN ?_ _|refine blk_drew ?_|refine blk_alloc ?_ _));exact BK523.out)):gb533≠gb523))
        have n11_:=Aside0.mk ((by rw [hg];exact Nat.ne_of_lt (blk_lt (g:=gb524) (o:=.cells #[.bool a1_0,.slice A1_1 l1_1.length c1_1] 38 (0,0)) (by (with_reducible repeat (first|refine blk_drewN ?_ _|refine blk_drew ?_|refine blk_alloc ?_ _));exact BK524.out)):gb524≠gb533))
        have n12_:=Aside0.mk ((by rw [hg];exact Nat.ne_of_gt (blk_lt (g:=gb524) (o:=.cells #[.bool a1_0,.slice A1_1 l1_1.length c1_1] 38 (0,0)) (by (with_reducible repeat (first|refine blk_drewN ?_ _|refine blk_drew ?_|refine blk_alloc ?_ _));exact BK524.out)):gb533≠gb524))
        have n13_:=Aside0.mk ((by rw [hg];exact Nat.ne_of_lt (blk_lt (g:=gb525) (o:=.cells #[.bool false,.slice none 0 0] 38 (0,0)) (by (with_reducible repeat (first|refine blk_drewN ?_ _|refine blk_drew ?_|refine blk_alloc ?_ _));exact BK525.out)):gb525≠gb533))
        have n14_:=Aside0.mk ((by rw [hg];exact Nat.ne_of_gt (blk_lt (g:=gb525) (o:=.cells #[.bool false,.slice none 0 0] 38 (0,0)) (by (with_reducible repeat (first|refine blk_drewN ?_ _|refine blk_drew ?_|refine blk_alloc ?_ _));exact BK525.out)):gb533≠gb525))
        have n15_:=Aside0.mk ((by rw [hg];exact Nat.ne_of_lt (blk_lt (g:=gb532) (o:=.cells #[.slice none 0 0] 87 (0,0)) (by (with_reducible repeat (first|refine blk_drewN ?_ _|refine blk_drew ?_|refine blk_alloc ?_ _));exact BK532.out)):gb532≠gb533))
        have n16_:=Aside0.mk ((by rw [hg];exact Nat.ne_of_gt (blk_lt (g:=gb532) (o:=.cells #[.slice none 0 0] 87 (0,0)) (by (with_reducible repeat (first|refine blk_drewN ?_ _|refine blk_drew ?_|refine blk_alloc ?_ _));exact BK532.out)):gb533≠gb532))
        clear HO528
        clear BK523
        clear BK524
        clear BK525
        clear BK532
        clear HB
        have HO528:=n0_
        have BK523:=n1_
        have BK524:=n2_
        have BK525:=n3_
        have BK532:=n4_
        have HB:=n5_
        have BK533:=n6_
        have GW533:=n7_
        have GE533:=n8_
        have NB523_533:=n9_
        have NB533_523:=n10_
        have NB524_533:=n11_
        have NB533_524:=n12_
        have NB525_533:=n13_
        have NB533_525:=n14_
        have NB532_533:=n15_
        have NB533_532:=n16_
        clear n0_ n1_ n2_ n3_ n4_ n5_ n6_ n7_ n8_ n9_ n10_ n11_ n12_ n13_ n14_ n15_ n16_
        clear hb hbox hg
        refine hK.out _ _ ⟨(blk_cell BK523.out 0).trans rfl,(blk_cell BK523.out 1).trans rfl,(blk_cell BK524.out 0).trans rfl,(blk_cell BK524.out 1).trans rfl⟩ (fun hHeld=>?_)
        clear hK K
        refine norm_ (a':=?_) ?_ ?_
        rotate_left
        ·show Act.put _ (some 6) _=_
         simp only [Act.put,List.setIfInBounds_toArray,List.set_cons_zero,List.set_cons_succ,i64_w,i32_w]
         rfl
        exact norm_ (by first|(simp only [putAll,Act.put,List.setIfInBounds_toArray,List.set_cons_zero,List.set_cons_succ];done)|(simp only [putAll,Act.put,List.setIfInBounds_toArray,List.set_cons_zero,List.set_cons_succ];rfl)) (hJ2_6_7 (v527,gb532,gb533) _ ⟨hHeld,(by (with_reducible repeat (first|apply rA_|apply rN_|apply rD_));exact HO528.out),(by (with_reducible repeat (first|refine blk_drewN ?_ _|refine blk_drew ?_|refine blk_alloc ?_ _));exact BK523.out),(by (with_reducible repeat (first|refine blk_drewN ?_ _|refine blk_drew ?_|refine blk_alloc ?_ _));exact BK524.out),(by (with_reducible repeat (first|refine blk_drewN ?_ _|refine blk_drew ?_|refine blk_alloc ?_ _));exact BK525.out),(by (with_reducible repeat (first|refine blk_drewN ?_ _|refine blk_drew ?_|refine blk_alloc ?_ _));exact BK532.out),(by (with_reducible repeat (first|refine blk_drewN ?_ _|refine blk_drew ?_|refine blk_alloc ?_ _));exact BK533.out),GW532.out,GE532.out,NB523_532.out,NB532_523.out,NB524_532.out,NB532_524.out,NB525_532.out,NB532_525.out,NB533_532.out,NB532_533.out,GW533.out,GE533.out,NB523_533.out,NB533_523.out,NB524_533.out,NB533_524.out,NB525_533.out,NB533_525.out,(by repeat (first|(with_reducible first|exact HB.out|apply bA_|apply bN_|apply bD_|refine below_set ?_ GE523.out|refine below_set ?_ GE524.out|refine below_set ?_ GE525.out|refine below_set ?_ GE532.out|refine below_set ?_ GE533.out)|exact HB.out))⟩)
     ·skip
      rintro ⟨v527,v530⟩ w12 ⟨hS_,h0_,h1_,h2_,h3_,h4_,h5_⟩
      have n0_:Aside0 (Kd.R Kd.string 9 w12 w.heap.size (fun k_=>some k_≠(v530:Value).ownBlock) v527 t526):=⟨h0_⟩
      have n1_:Aside0 (Kd.R Kd.string 9 w12 w.heap.size (fun k_=>some k_≠(v527:Value).ownBlock) v530 t529):=⟨h1_⟩
      have n2_:Aside0 (w12.heap[gb523]? = some (.cells #[.bool a0_0,.slice A0_1 l0_1.length c0_1] 38 (0,0))):=⟨h2_⟩
      have n3_:Aside0 (w12.heap[gb524]? = some (.cells #[.bool a1_0,.slice A1_1 l1_1.length c1_1] 38 (0,0))):=⟨h3_⟩
      have n4_:Aside0 (w12.heap[gb525]? = some (.cells #[.bool false,.slice none 0 0] 38 (0,0))):=⟨h4_⟩
      have n5_:Aside0 (Below w.heap.size w w12):=⟨h5_⟩
      clear BK523
      clear BK524
      clear BK525
      clear HB
      clear h0_ h1_ h2_ h3_ h4_ h5_
      have HO528:=n0_
      have HO531:=n1_
      have BK523:=n2_
      have BK524:=n3_
      have BK525:=n4_
      have HB:=n5_
      clear n0_ n1_ n2_ n3_ n4_ n5_
      have hHeld:w12.cell? ⟨gb523,0,none⟩=some (.bool a0_0)∧w12.cell? ⟨gb523,1,none⟩=some (.slice A0_1 l0_1.length c0_1)∧w12.cell? ⟨gb524,0,none⟩=some (.bool a1_0)∧w12.cell? ⟨gb524,1,none⟩=some (.slice A1_1 l1_1.length c1_1):=hS_
      refine norm_ (a':=?_) ?_ ?_
      rotate_left
      ·simp only [putAll,Act.put,List.setIfInBounds_toArray,List.set_cons_zero,List.set_cons_succ]
       rfl
      refine two_ (i:=6) (j:=7) (Ni:=some 5) (Nj:=some 6) #[true,true,true,true,true,true,true,false,false,false] #[true,true,true,true,true,true,false,true,false,false] rfl rfl rfl rfl (two_of HT_.out (by kernel_rfl)) (by decide) (by decide) (fun K hK=>?_) (fun K hK=>?_)
      ·skip
       refine box_step ?hg (N:=5) ?hd (cs:=#[.slice none 0 0]) (t:=87) ?hr ?_;(case hd=>rfl);(case hg=>rfl);(case hr=>first|(go_simp;done)|(go_simp;rfl))
       intro gb532 hg w13 hbox hb
       have n0_:=Aside0.mk (Kd.R_below (by (with_reducible repeat (first|apply rA_|apply rN_|apply rD_));exact HO528.out) hb)
       have n1_:=Aside0.mk (Kd.R_below (by (with_reducible repeat (first|apply rA_|apply rN_|apply rD_));exact HO531.out) hb)
       have n2_:=Aside0.mk (blk_below (g:=gb523) (o:=.cells #[.bool a0_0,.slice A0_1 l0_1.length c0_1] 38 (0,0)) (by (with_reducible repeat (first|refine blk_drewN ?_ _|refine blk_drew ?_|refine blk_alloc ?_ _));exact BK523.out) hb)
       have n3_:=Aside0.mk (blk_below (g:=gb524) (o:=.cells #[.bool a1_0,.slice A1_1 l1_1.length c1_1] 38 (0,0)) (by (with_reducible repeat (first|refine blk_drewN ?_ _|refine blk_drew ?_|refine blk_alloc ?_ _));exact BK524.out) hb)
       have n4_:=Aside0.mk (blk_below (g:=gb525) (o:=.cells #[.bool false,.slice none 0 0] 38 (0,0)) (by (with_reducible repeat (first|refine blk_drewN ?_ _|refine blk_drew ?_|refine blk_alloc ?_ _));exact BK525.out) hb)
       have n5_:=Aside0.mk (below_step (by repeat (first|(with_reducible first|exact HB.out|apply bA_|apply bN_|apply bD_|refine below_set ?_ GE523.out|refine below_set ?_ GE524.out|refine below_set ?_ GE525.out)|exact HB.out)) hb)
       have n6_:=Aside0.mk (hbox)
       have n7_:=Aside0.mk ((by rw [hg];exact (below_size (by repeat (first|(with_reducible first|exact HB.out|apply bA_|apply bN_|apply bD_|refine below_set ?_ GE523.out|refine below_set ?_ GE524.out|refine below_set ?_ GE525.out)|exact HB.out))):w.heap.size≤gb532))
       have n8_:=Aside0.mk ((by rw [hg];exact (below_size (by repeat (first|(with_reducible first|exact HB.out|apply bA_|apply bN_|apply bD_|refine below_set ?_ GE523.out|refine below_set ?_ GE524.out|refine below_set ?_ GE525.out)|exact HB.out))):w.heap.size≤gb532))
       have n9_:=Aside0.mk ((by rw [hg];exact Nat.ne_of_lt (blk_lt (g:=gb523) (o:=.cells #[.bool a0_0,.slice A0_1 l0_1.length c0_1] 38 (0,0)) (by (with_reducible repeat (first|refine blk_drewN ?_ _|refine blk_drew ?_|refine blk_alloc ?_ _));exact BK523.out)):gb523≠gb532))
       have n10_:=Aside0.mk ((by rw [hg];exact Nat.ne_of_gt (blk_lt (g:=gb523) (o:=.cells #[.bool a0_0,.slice A0_1 l0_1.length c0_1] 38 (0,0)) (by (with_reducible repeat (first|refine blk_drewN ?_ _|refine blk_drew ?_|refine blk_alloc ?_ _));exact BK523.out)):gb532≠gb523))
       have n11_:=Aside0.mk ((by rw [hg];exact Nat.ne_of_lt (blk_lt (g:=gb524) (o:=.cells #[.bool a1_0,.slice A1_1 l1_1.length c1_1] 38 (0,0)) (by (with_reducible repeat (first|refine blk_drewN ?_ _|refine blk_drew ?_|refine blk_alloc ?_ _));exact BK524.out)):gb524≠gb532))
       have n12_:=Aside0.mk ((by rw [hg];exact Nat.ne_of_gt (blk_lt (g:=gb524) (o:=.cells #[.bool a1_0,.slice A1_1 l1_1.length c1_1] 38 (0,0)) (by (with_reducible repeat (first|refine blk_drewN ?_ _|refine blk_drew ?_|refine blk_alloc ?_ _));exact BK524.out)):gb532≠gb524))
       have n13_:=Aside0.mk ((by rw [hg];exact Nat.ne_of_lt (blk_lt (g:=gb525) (o:=.cells #[.bool false,.slice none 0 0] 38 (0,0)) (by (with_reducible repeat (first|refine blk_drewN ?_ _|refine blk_drew ?_|refine blk_alloc ?_ _));exact BK525.out)):gb525≠gb532))
       have n14_:=Aside0.mk ((by rw [hg];exact Nat.ne_of_gt (blk_lt (g:=gb525) (o:=.cells #[.bool false,.slice none 0 0] 38 (0,0)) (by (with_reducible repeat (first|refine blk_drewN ?_ _|refine blk_drew ?_|refine blk_alloc ?_ _));exact BK525.out)):gb532≠gb525))
       clear HO528
       clear HO531
       clear BK523
       clear BK524
       clear BK525
       clear HB
       have HO528:=n0_
       have HO531:=n1_
       have BK523:=n2_
       have BK524:=n3_
       have BK525:=n4_
       have HB:=n5_
       have BK532:=n6_
       have GW532:=n7_
       have GE532:=n8_
       have NB523_532:=n9_
       have NB532_523:=n10_
       have NB524_532:=n11_
       have NB532_524:=n12_
       have NB525_532:=n13_
       have NB532_525:=n14_
       clear n0_ n1_ n2_ n3_ n4_ n5_ n6_ n7_ n8_ n9_ n10_ n11_ n12_ n13_ n14_
       clear hb hbox hg
       refine hK.out _ _ ⟨(blk_cell BK523.out 0).trans rfl,(blk_cell BK523.out 1).trans rfl,(blk_cell BK524.out 0).trans rfl,(blk_cell BK524.out 1).trans rfl⟩ (fun hHeld=>?_)
       clear hK K
       refine norm_ (a':=?_) ?_ ?_
       rotate_left
       ·show Act.put _ (some 5) _=_
        simp only [Act.put,List.setIfInBounds_toArray,List.set_cons_zero,List.set_cons_succ,i64_w,i32_w]
        rfl
       exact norm_ (by first|(simp only [putAll,Act.put,List.setIfInBounds_toArray,List.set_cons_zero,List.set_cons_succ];done)|(simp only [putAll,Act.put,List.setIfInBounds_toArray,List.set_cons_zero,List.set_cons_succ];rfl)) (hJ2_5_6 (v527,v530,gb532) _ ⟨hHeld,(by (with_reducible repeat (first|apply rA_|apply rN_|apply rD_));exact HO528.out),(by (with_reducible repeat (first|apply rA_|apply rN_|apply rD_));exact HO531.out),(by (with_reducible repeat (first|refine blk_drewN ?_ _|refine blk_drew ?_|refine blk_alloc ?_ _));exact BK523.out),(by (with_reducible repeat (first|refine blk_drewN ?_ _|refine blk_drew ?_|refine blk_alloc ?_ _));exact BK524.out),(by (with_reducible repeat (first|refine blk_drewN ?_ _|refine blk_drew ?_|refine blk_alloc ?_ _));exact BK525.out),(by (with_reducible repeat (first|refine blk_drewN ?_ _|refine blk_drew ?_|refine blk_alloc ?_ _));exact BK532.out),GW532.out,GE532.out,NB523_532.out,NB532_523.out,NB524_532.out,NB532_524.out,NB525_532.out,NB532_525.out,(by repeat (first|(with_reducible first|exact HB.out|apply bA_|apply bN_|apply bD_|refine below_set ?_ GE523.out|refine below_set ?_ GE524.out|refine below_set ?_ GE525.out|refine below_set ?_ GE532.out)|exact HB.out))⟩)
      ·skip
       refine box_step ?hg (N:=6) ?hd (cs:=#[.slice none 0 0]) (t:=87) ?hr ?_;(case hd=>rfl);(case hg=>rfl);(case hr=>first|(go_simp;done)|(go_simp;rfl))
       intro gb533 hg w13 hbox hb
       have n0_:=Aside0.mk (Kd.R_below (by (with_reducible repeat (first|apply rA_|apply rN_|apply rD_));exact HO528.out) hb)
       have n1_:=Aside0.mk (Kd.R_below (by (with_reducible repeat (first|apply rA_|apply rN_|apply rD_));exact HO531.out) hb)
       have n2_:=Aside0.mk (blk_below (g:=gb523) (o:=.cells #[.bool a0_0,.slice A0_1 l0_1.length c0_1] 38 (0,0)) (by (with_reducible repeat (first|refine blk_drewN ?_ _|refine blk_drew ?_|refine blk_alloc ?_ _));exact BK523.out) hb)
       have n3_:=Aside0.mk (blk_below (g:=gb524) (o:=.cells #[.bool a1_0,.slice A1_1 l1_1.length c1_1] 38 (0,0)) (by (with_reducible repeat (first|refine blk_drewN ?_ _|refine blk_drew ?_|refine blk_alloc ?_ _));exact BK524.out) hb)
       have n4_:=Aside0.mk (blk_below (g:=gb525) (o:=.cells #[.bool false,.slice none 0 0] 38 (0,0)) (by (with_reducible repeat (first|refine blk_drewN ?_ _|refine blk_drew ?_|refine blk_alloc ?_ _));exact BK525.out) hb)
       have n5_:=Aside0.mk (below_step (by repeat (first|(with_reducible first|exact HB.out|apply bA_|apply bN_|apply bD_|refine below_set ?_ GE523.out|refine below_set ?_ GE524.out|refine below_set ?_ GE525.out)|exact HB.out)) hb)
       have n6_:=Aside0.mk (hbox)
       have n7_:=Aside0.mk ((by rw [hg];exact (below_size (by repeat (first|(with_reducible first|exact HB.out|apply bA_|apply bN_|apply bD_|refine below_set ?_ GE523.out|refine below_set ?_ GE524.out|refine below_set ?_ GE525.out)|exact HB.out))):w.heap.size≤gb533))
       have n8_:=Aside0.mk ((by rw [hg];exact (below_size (by repeat (first|(with_reducible first|exact HB.out|apply bA_|apply bN_|apply bD_|refine below_set ?_ GE523.out|refine below_set ?_ GE524.out|refine below_set ?_ GE525.out)|exact HB.out))):w.heap.size≤gb533))
       have n9_:=Aside0.mk ((by rw [hg];exact Nat.ne_of_lt (blk_lt (g:=gb523) (o:=.cells #[.bool a0_0,.slice A0_1 l0_1.length c0_1] 38 (0,0)) (by (with_reducible repeat (first|refine blk_drewN ?_ _|refine blk_drew ?_|refine blk_alloc ?_ _));exact BK523.out)):gb523≠gb533))
       have n10_:=Aside0.mk ((by rw [hg];exact Nat.ne_of_gt (blk_lt (g:=gb523) (o:=.cells #[.bool a0_0,.slice A0_1 l0_1.length c0_1] 38 (0,0)) (by (with_reducible repeat (first|refine blk_drewN ?_ _|refine blk_drew ?_|refine blk_alloc ?_ _));exact BK523.out)):gb533≠gb523))
       have n11_:=Aside0.mk ((by rw [hg];exact Nat.ne_of_lt (blk_lt (g:=gb524) (o:=.cells #[.bool a1_0,.slice A1_1 l1_1.length c1_1] 38 (0,0)) (by (with_reducible repeat (first|refine blk_drewN ?_ _|refine blk_drew ?_|refine blk_alloc ?_ _));exact BK524.out)):gb524≠gb533))
       have n12_:=Aside0.mk ((by rw [hg];exact Nat.ne_of_gt (blk_lt (g:=gb524) (o:=.cells #[.bool a1_0,.slice A1_1 l1_1.length c1_1] 38 (0,0)) (by (with_reducible repeat (first|refine blk_drewN ?_ _|refine blk_drew ?_|refine blk_alloc ?_ _));exact BK524.out)):gb533≠gb524))
       have n13_:=Aside0.mk ((by rw [hg];exact Nat.ne_of_lt (blk_lt (g:=gb525) (o:=.cells #[.bool false,.slice none 0 0] 38 (0,0)) (by (with_reducible repeat (first|refine blk_drewN ?_ _|refine blk_drew ?_|refine blk_alloc ?_ _));exact BK525.out)):gb525≠gb533))
       have n14_:=Aside0.mk ((by rw [hg];exact Nat.ne_of_gt (blk_lt (g:=gb525) (o:=.cells #[.bool false,.slice none 0 0] 38 (0,0)) (by (with_reducible repeat (first|refine blk_drewN ?_ _|refine blk_drew ?_|refine blk_alloc ?_ _));exact BK525.out)):gb533≠gb525))
       clear HO528
       clear HO531
       clear BK523
       clear BK524
       clear BK525
       clear HB
       have HO528:=n0_
       have HO531:=n1_
       have BK523:=n2_
       have BK524:=n3_
       have BK525:=n4_
       have HB:=n5_
       have BK533:=n6_
       have GW533:=n7_
       have GE533:=n8_
       have NB523_533:=n9_
       have NB533_523:=n10_
       have NB524_533:=n11_
       have NB533_524:=n12_
       have NB525_533:=n13_
       have NB533_525:=n14_
       clear n0_ n1_ n2_ n3_ n4_ n5_ n6_ n7_ n8_ n9_ n10_ n11_ n12_ n13_ n14_
       clear hb hbox hg
       refine hK.out _ _ ⟨(blk_cell BK523.out 0).trans rfl,(blk_cell BK523.out 1).trans rfl,(blk_cell BK524.out 0).trans rfl,(blk_cell BK524.out 1).trans rfl⟩ (fun hHeld=>?_)
       clear hK K
       refine norm_ (a':=?_) ?_ ?_
       rotate_left
       ·show Act.put _ (some 6) _=_
        simp only [Act.put,List.setIfInBounds_toArray,List.set_cons_zero,List.set_cons_succ,i64_w,i32_w]
        rfl
       exact norm_ (by first|(simp only [putAll,Act.put,List.setIfInBounds_toArray,List.set_cons_zero,List.set_cons_succ];done)|(simp only [putAll,Act.put,List.setIfInBounds_toArray,List.set_cons_zero,List.set_cons_succ];rfl)) (hJ2_5_7 (v527,v530,gb533) _ ⟨hHeld,(by (with_reducible repeat (first|apply rA_|apply rN_|apply rD_));exact HO528.out),(by (with_reducible repeat (first|apply rA_|apply rN_|apply rD_));exact HO531.out),(by (with_reducible repeat (first|refine blk_drewN ?_ _|refine blk_drew ?_|refine blk_alloc ?_ _));exact BK523.out),(by (with_reducible repeat (first|refine blk_drewN ?_ _|refine blk_drew ?_|refine blk_alloc ?_ _));exact BK524.out),(by (with_reducible repeat (first|refine blk_drewN ?_ _|refine blk_drew ?_|refine blk_alloc ?_ _));exact BK525.out),(by (with_reducible repeat (first|refine blk_drewN ?_ _|refine blk_drew ?_|refine blk_alloc ?_ _));exact BK533.out),GW533.out,GE533.out,NB523_533.out,NB533_523.out,NB524_533.out,NB533_524.out,NB525_533.out,NB533_525.out,(by repeat (first|(with_reducible first|exact HB.out|apply bA_|apply bN_|apply bD_|refine below_set ?_ GE523.out|refine below_set ?_ GE524.out|refine below_set ?_ GE525.out|refine below_set ?_ GE533.out)|exact HB.out))⟩)
    ·skip
     rintro ⟨v527,gb532,gb533⟩ w13 ⟨hS_,h0_,h1_,h2_,h3_,h4_,h5_,h6_,h7_,h8_,h9_,h10_,h11_,h12_,h13_,h14_,h15_,h16_,h17_,h18_,h19_,h20_,h21_,h22_,h23_,h24_⟩
     have n0_:Aside0 (Kd.R Kd.string 9 w13 w.heap.size (fun _=>True) v527 t526):=⟨h0_⟩
     have n1_:Aside0 (w13.heap[gb523]? = some (.cells #[.bool a0_0,.slice A0_1 l0_1.length c0_1] 38 (0,0))):=⟨h1_⟩
     have n2_:Aside0 (w13.heap[gb524]? = some (.cells #[.bool a1_0,.slice A1_1 l1_1.length c1_1] 38 (0,0))):=⟨h2_⟩
     have n3_:Aside0 (w13.heap[gb525]? = some (.cells #[.bool false,.slice none 0 0] 38 (0,0))):=⟨h3_⟩
     have n4_:Aside0 (w13.heap[gb532]? = some (.cells #[.slice none 0 0] 87 (0,0))):=⟨h4_⟩
     have n5_:Aside0 (w13.heap[gb533]? = some (.cells #[.slice none 0 0] 87 (0,0))):=⟨h5_⟩
     have n6_:Aside0 (w.heap.size≤gb532):=⟨h6_⟩
     have n7_:Aside0 (w.heap.size≤gb532):=⟨h7_⟩
     have n8_:Aside0 (gb523≠gb532):=⟨h8_⟩
     have n9_:Aside0 (gb532≠gb523):=⟨h9_⟩
     have n10_:Aside0 (gb524≠gb532):=⟨h10_⟩
     have n11_:Aside0 (gb532≠gb524):=⟨h11_⟩
     have n12_:Aside0 (gb525≠gb532):=⟨h12_⟩
     have n13_:Aside0 (gb532≠gb525):=⟨h13_⟩
     have n14_:Aside0 (gb533≠gb532):=⟨h14_⟩
     have n15_:Aside0 (gb532≠gb533):=⟨h15_⟩
     have n16_:Aside0 (w.heap.size≤gb533):=⟨h16_⟩
     have n17_:Aside0 (w.heap.size≤gb533):=⟨h17_⟩
     have n18_:Aside0 (gb523≠gb533):=⟨h18_⟩
     have n19_:Aside0 (gb533≠gb523):=⟨h19_⟩
     have n20_:Aside0 (gb524≠gb533):=⟨h20_⟩
     have n21_:Aside0 (gb533≠gb524):=⟨h21_⟩
     have n22_:Aside0 (gb525≠gb533):=⟨h22_⟩
     have n23_:Aside0 (gb533≠gb525):=⟨h23_⟩
     have n24_:Aside0 (Below w.heap.size w w13):=⟨h24_⟩
     clear BK523
     clear BK524
     clear BK525
     clear HB
     clear h0_ h1_ h2_ h3_ h4_ h5_ h6_ h7_ h8_ h9_ h10_ h11_ h12_ h13_ h14_ h15_ h16_ h17_ h18_ h19_ h20_ h21_ h22_ h23_ h24_
     have HO528:=n0_
     have BK523:=n1_
     have BK524:=n2_
     have BK525:=n3_
     have BK532:=n4_
     have BK533:=n5_
     have GW532:=n6_
     have GE532:=n7_
     have NB523_532:=n8_
     have NB532_523:=n9_
     have NB524_532:=n10_
     have NB532_524:=n11_
     have NB525_532:=n12_
     have NB532_525:=n13_
     have NB533_532:=n14_
     have NB532_533:=n15_
     have GW533:=n16_
     have GE533:=n17_
     have NB523_533:=n18_
     have NB533_523:=n19_
     have NB524_533:=n20_
     have NB533_524:=n21_
     have NB525_533:=n22_
     have NB533_525:=n23_
     have HB:=n24_
     clear n0_ n1_ n2_ n3_ n4_ n5_ n6_ n7_ n8_ n9_ n10_ n11_ n12_ n13_ n14_ n15_ n16_ n17_ n18_ n19_ n20_ n21_ n22_ n23_ n24_
     have hHeld:w13.cell? ⟨gb523,0,none⟩=some (.bool a0_0)∧w13.cell? ⟨gb523,1,none⟩=some (.slice A0_1 l0_1.length c0_1)∧w13.cell? ⟨gb524,0,none⟩=some (.bool a1_0)∧w13.cell? ⟨gb524,1,none⟩=some (.slice A1_1 l1_1.length c1_1):=hS_
     refine norm_ (a':=?_) ?_ ?_
     rotate_left
     ·simp only [putAll,Act.put,List.setIfInBounds_toArray,List.set_cons_zero,List.set_cons_succ]
      rfl
     refine one_ (i:=5) (N:=some 12) #[true,true,true,true,true,true,true,true,false,false] rfl rfl (one_of HT_.out (by kernel_rfl)) (by decide) (fun K hK=>?_)
     refine goes_ Try.func61 (by kernel_rfl) rfl #[.slice A1_1 l1_1.length c1_1] (by rfl) rfl rfl (by (try simp only [List.map_toArray,List.map_cons,List.map_nil]);first|done|rfl|(simp only [List.length_drop,List.length_take];rfl)) ?_
     with_reducible refine (names_of_string.calls _ _ l1_1 t529 _ ?side1 ?side2 A4.out).mono ?_
     (case side1=>repeat (first|exact (Kd.C_below HR1_1.out HB.out)|(with_reducible refine cA_ ?_ _)|(with_reducible refine cN_ ?_ _)|(with_reducible refine cD_ ?_)))
     (case side2=>exact HC1_1.out)
     rintro e w14 ⟨v530,rfl,ho0,hb⟩
     refine ⟨_,rfl,?_⟩
     have n0_:=Aside0.mk (Kd.R_elder' (by (with_reducible repeat (first|apply rA_|apply rN_|apply rD_));exact HO528.out) (Kd.R_base ho0) hb)
     have n1_:=Aside0.mk (Kd.R_lower (Kd.R_new' ho0 (Kd.R_lt (by (with_reducible repeat (first|apply rA_|apply rN_|apply rD_));exact HO528.out))) (below_size (by repeat (first|(with_reducible first|exact HB.out|apply bA_|apply bN_|apply bD_|refine below_set ?_ GE523.out|refine below_set ?_ GE524.out|refine below_set ?_ GE525.out|refine below_set ?_ GE532.out|refine below_set ?_ GE533.out)|exact HB.out))))
     have n2_:=Aside0.mk (blk_below (g:=gb523) (o:=.cells #[.bool a0_0,.slice A0_1 l0_1.length c0_1] 38 (0,0)) (by (with_reducible repeat (first|refine blk_drewN ?_ _|refine blk_drew ?_|refine blk_alloc ?_ _));exact BK523.out) hb)
     have n3_:=Aside0.mk (blk_below (g:=gb524) (o:=.cells #[.bool a1_0,.slice A1_1 l1_1.length c1_1] 38 (0,0)) (by (with_reducible repeat (first|refine blk_drewN ?_ _|refine blk_drew ?_|refine blk_alloc ?_ _));exact BK524.out) hb)
     have n4_:=Aside0.mk (blk_below (g:=gb525) (o:=.cells #[.bool false,.slice none 0 0] 38 (0,0)) (by (with_reducible repeat (first|refine blk_drewN ?_ _|refine blk_drew ?_|refine blk_alloc ?_ _));exact BK525.out) hb)
     have n5_:=Aside0.mk (blk_below (g:=gb532) (o:=.cells #[.slice none 0 0] 87 (0,0)) (by (with_reducible repeat (first|refine blk_drewN ?_ _|refine blk_drew ?_|refine blk_alloc ?_ _));exact BK532.out) hb)
     have n6_:=Aside0.mk (blk_below (g:=gb533) (o:=.cells #[.slice none 0 0] 87 (0,0)) (by (with_reducible repeat (first|refine blk_drewN ?_ _|refine blk_drew ?_|refine blk_alloc ?_ _));exact BK533.out) hb)
     have n7_:=Aside0.mk (below_step (by repeat (first|(with_reducible first|exact HB.out|apply bA_|apply bN_|apply bD_|refine below_set ?_ GE523.out|refine below_set ?_ GE524.out|refine below_set ?_ GE525.out|refine below_set ?_ GE532.out|refine below_set ?_ GE533.out)|exact HB.out)) hb)
     clear HO528
     clear BK523
     clear BK524
     clear BK525
     clear BK532
     clear BK533
     clear HB
     have HO528:=n0_
     have HO531:=n1_
     have BK523:=n2_
     have BK524:=n3_
     have BK525:=n4_
     have BK532:=n5_
     have BK533:=n6_
     have HB:=n7_
     clear n0_ n1_ n2_ n3_ n4_ n5_ n6_ n7_
     (try clear hb)
     (try clear hb2)
     (try clear hk)
     (try clear hi)
     (try clear ho0)
     refine hK.out _ _ ⟨(blk_cell BK523.out 0).trans rfl,(blk_cell BK523.out 1).trans rfl,(blk_cell BK524.out 0).trans rfl,(blk_cell BK524.out 1).trans rfl⟩ (fun hHeld=>?_)
     clear hK K
     refine norm_ (a':=?_) ?_ ?_
     rotate_left
     ·show Act.put _ (some 12) _=_
      simp only [Act.put,List.setIfInBounds_toArray,List.set_cons_zero,List.set_cons_succ,i64_w,i32_w]
      rfl
     exact norm_ (by first|(simp only [putAll,Act.put,List.setIfInBounds_toArray,List.set_cons_zero,List.set_cons_succ];done)|(simp only [putAll,Act.put,List.setIfInBounds_toArray,List.set_cons_zero,List.set_cons_succ];rfl)) (hJ2_5_6_7 (v527,v530,gb532,gb533) _ ⟨hHeld,(by (with_reducible repeat (first|apply rA_|apply rN_|apply rD_));exact Kd.R_mono HO528.out (fun _ hk=>hk.2)),(by (with_reducible repeat (first|apply rA_|apply rN_|apply rD_));exact Kd.R_mono HO531.out (fun _ hk=>hk.2)),(by (with_reducible repeat (first|refine blk_drewN ?_ _|refine blk_drew ?_|refine blk_alloc ?_ _));exact BK523.out),(by (with_reducible repeat (first|refine blk_drewN ?_ _|refine blk_drew ?_|refine blk_alloc ?_ _));exact BK524.out),(by (with_reducible repeat (first|refine blk_drewN ?_ _|refine blk_drew ?_|refine blk_alloc ?_ _));exact BK525.out),(by (with_reducible repeat (first|refine blk_drewN ?_ _|refine blk_drew ?_|refine blk_alloc ?_ _));exact BK532.out),(by (with_reducible repeat (first|refine blk_drewN ?_ _|refine blk_drew ?_|refine blk_alloc ?_ _));exact BK533.out),GW532.out,GE532.out,NB523_532.out,NB532_523.out,NB524_532.out,NB532_524.out,NB525_532.out,NB532_525.out,NB533_532.out,NB532_533.out,GW533.out,GE533.out,NB523_533.out,NB533_523.out,NB524_533.out,NB533_524.out,NB525_533.out,NB533_525.out,(by repeat (first|(with_reducible first|exact HB.out|apply bA_|apply bN_|apply bD_|refine below_set ?_ GE523.out|refine below_set ?_ GE524.out|refine below_set ?_ GE525.out|refine below_set ?_ GE532.out|refine below_set ?_ GE533.out)|exact HB.out))⟩)
   ·skip
    rintro ⟨v527,v530,gb533⟩ w13 ⟨hS_,h0_,h1_,h2_,h3_,h4_,h5_,h6_,h7_,h8_,h9_,h10_,h11_,h12_,h13_,h14_⟩
    have n0_:Aside0 (Kd.R Kd.string 9 w13 w.heap.size (fun k_=>some k_≠(v530:Value).ownBlock) v527 t526):=⟨h0_⟩
    have n1_:Aside0 (Kd.R Kd.string 9 w13 w.heap.size (fun k_=>some k_≠(v527:Value).ownBlock) v530 t529):=⟨h1_⟩
    have n2_:Aside0 (w13.heap[gb523]? = some (.cells #[.bool a0_0,.slice A0_1 l0_1.length c0_1] 38 (0,0))):=⟨h2_⟩
    have n3_:Aside0 (w13.heap[gb524]? = some (.cells #[.bool a1_0,.slice A1_1 l1_1.length c1_1] 38 (0,0))):=⟨h3_⟩
    have n4_:Aside0 (w13.heap[gb525]? = some (.cells #[.bool false,.slice none 0 0] 38 (0,0))):=⟨h4_⟩
    have n5_:Aside0 (w13.heap[gb533]? = some (.cells #[.slice none 0 0] 87 (0,0))):=⟨h5_⟩
    have n6_:Aside0 (w.heap.size≤gb533):=⟨h6_⟩
    have n7_:Aside0 (w.heap.size≤gb533):=⟨h7_⟩
    have n8_:Aside0 (gb523≠gb533):=⟨h8_⟩
    have n9_:Aside0 (gb533≠gb523):=⟨h9_⟩
    have n10_:Aside0 (gb524≠gb533):=⟨h10_⟩
    have n11_:Aside0 (gb533≠gb524):=⟨h11_⟩
    have n12_:Aside0 (gb525≠gb533):=⟨h12_⟩
    have n13_:Aside0 (gb533≠gb525):=⟨h13_⟩
    have n14_:Aside0 (Below w.heap.size w w13):=⟨h14_⟩
    clear BK523
    clear BK524
    clear BK525
    clear HB
    clear h0_ h1_ h2_ h3_ h4_ h5_ h6_ h7_ h8_ h9_ h10_ h11_ h12_ h13_ h14_
    have HO528:=n0_
    have HO531:=n1_
    have BK523:=n2_
    have BK524:=n3_
    have BK525:=n4_
    have BK533:=n5_
    have GW533:=n6_
    have GE533:=n7_
    have NB523_533:=n8_
    have NB533_523:=n9_
    have NB524_533:=n10_
    have NB533_524:=n11_
    have NB525_533:=n12_
    have NB533_525:=n13_
    have HB:=n14_
    clear n0_ n1_ n2_ n3_ n4_ n5_ n6_ n7_ n8_ n9_ n10_ n11_ n12_ n13_ n14_
    have hHeld:w13.cell? ⟨gb523,0,none⟩=some (.bool a0_0)∧w13.cell? ⟨gb523,1,none⟩=some (.slice A0_1 l0_1.length c0_1)∧w13.cell? ⟨gb524,0,none⟩=some (.bool a1_0)∧w13.cell? ⟨gb524,1,none⟩=some (.slice A1_1 l1_1.length c1_1):=hS_
    refine norm_ (a':=?_) ?_ ?_
    rotate_left
    ·simp only [putAll,Act.put,List.setIfInBounds_toArray,List.set_cons_zero,List.set_cons_succ]
     rfl
    refine one_ (i:=6) (N:=some 5) #[true,true,true,true,true,true,true,true,false,false] rfl rfl (one_of HT_.out (by kernel_rfl)) (by decide) (fun K hK=>?_)
    refine box_step ?hg (N:=5) ?hd (cs:=#[.slice none 0 0]) (t:=87) ?hr ?_;(case hd=>rfl);(case hg=>rfl);(case hr=>first|(go_simp;done)|(go_simp;rfl))
    intro gb532 hg w14 hbox hb
    have n0_:=Aside0.mk (Kd.R_below (by (with_reducible repeat (first|apply rA_|apply rN_|apply rD_));exact HO528.out) hb)
    have n1_:=Aside0.mk (Kd.R_below (by (with_reducible repeat (first|apply rA_|apply rN_|apply rD_));exact HO531.out) hb)
    have n2_:=Aside0.mk (blk_below (g:=gb523) (o:=.cells #[.bool a0_0,.slice A0_1 l0_1.length c0_1] 38 (0,0)) (by (with_reducible repeat (first|refine blk_drewN ?_ _|refine blk_drew ?_|refine blk_alloc ?_ _));exact BK523.out) hb)
    have n3_:=Aside0.mk (blk_below (g:=gb524) (o:=.cells #[.bool a1_0,.slice A1_1 l1_1.length c1_1] 38 (0,0)) (by (with_reducible repeat (first|refine blk_drewN ?_ _|refine blk_drew ?_|refine blk_alloc ?_ _));exact BK524.out) hb)
    have n4_:=Aside0.mk (blk_below (g:=gb525) (o:=.cells #[.bool false,.slice none 0 0] 38 (0,0)) (by (with_reducible repeat (first|refine blk_drewN ?_ _|refine blk_drew ?_|refine blk_alloc ?_ _));exact BK525.out) hb)
    have n5_:=Aside0.mk (blk_below (g:=gb533) (o:=.cells #[.slice none 0 0] 87 (0,0)) (by (with_reducible repeat (first|refine blk_drewN ?_ _|refine blk_drew ?_|refine blk_alloc ?_ _));exact BK533.out) hb)
    have n6_:=Aside0.mk (below_step (by repeat (first|(with_reducible first|exact HB.out|apply bA_|apply bN_|apply bD_|refine below_set ?_ GE523.out|refine below_set ?_ GE524.out|refine below_set ?_ GE525.out|refine below_set ?_ GE533.out)|exact HB.out)) hb)
    have n7_:=Aside0.mk (hbox)
    have n8_:=Aside0.mk ((by rw [hg];exact (below_size (by repeat (first|(with_reducible first|exact HB.out|apply bA_|apply bN_|apply bD_|refine below_set ?_ GE523.out|refine below_set ?_ GE524.out|refine below_set ?_ GE525.out|refine below_set ?_ GE533.out)|exact HB.out))):w.heap.size≤gb532))
    have n9_:=Aside0.mk ((by rw [hg];exact (below_size (by repeat (first|(with_reducible first|exact HB.out|apply bA_|apply bN_|apply bD_|refine below_set ?_ GE523.out|refine below_set ?_ GE524.out|refine below_set ?_ GE525.out|refine below_set ?_ GE533.out)|exact HB.out))):w.heap.size≤gb532))
    have n10_:=Aside0.mk ((by rw [hg];exact Nat.ne_of_lt (blk_lt (g:=gb523) (o:=.cells #[.bool a0_0,.slice A0_1 l0_1.length c0_1] 38 (0,0)) (by (with_reducible repeat (first|refine blk_drewN ?_ _|refine blk_drew ?_|refine blk_alloc ?_ _));exact BK523.out)):gb523≠gb532))
    have n11_:=Aside0.mk ((by rw [hg];exact Nat.ne_of_gt (blk_lt (g:=gb523) (o:=.cells #[.bool a0_0,.slice A0_1 l0_1.length c0_1] 38 (0,0)) (by (with_reducible repeat (first|refine blk_drewN ?_ _|refine blk_drew ?_|refine blk_alloc ?_ _));exact BK523.out)):gb532≠gb523))
    have n12_:=Aside0.mk ((by rw [hg];exact Nat.ne_of_lt (blk_lt (g:=gb524) (o:=.cells #[.bool a1_0,.slice A1_1 l1_1.length c1_1] 38 (0,0)) (by (with_reducible repeat (first|refine blk_drewN ?_ _|refine blk_drew ?_|refine blk_alloc ?_ _));exact BK524.out)):gb524≠gb532))
    have n13_:=Aside0.mk ((by rw [hg];exact Nat.ne_of_gt (blk_lt (g:=gb524) (o:=.cells #[.bool a1_0,.slice A1_1 l1_1.length c1_1] 38 (0,0)) (by (with_reducible repeat (first|refine blk_drewN ?_ _|refine blk_drew ?_|refine blk_alloc ?_ _));exact BK524.out)):gb532≠gb524))
    have n14_:=Aside0.mk ((by rw [hg];exact Nat.ne_of_lt (blk_lt (g:=gb525) (o:=.cells #[.bool false,.slice none 0 0] 38 (0,0)) (by (with_reducible repeat (first|refine blk_drewN ?_ _|refine blk_drew ?_|refine blk_alloc ?_ _));exact BK525.out)):gb525≠gb532))
    have n15_:=Aside0.mk ((by rw [hg];exact Nat.ne_of_gt (blk_lt (g:=gb525) (o:=.cells #[.bool false,.slice none 0 0] 38 (0,0)) (by (with_reducible repeat (first|refine blk_drewN ?_ _|refine blk_drew ?_|refine blk_alloc ?_ _));exact BK525.out)):gb532≠gb525))
    have n16_:=Aside0.mk ((by rw [hg];exact Nat.ne_of_lt (blk_lt (g:=gb533) (o:=.cells #[.slice none 0 0] 87 (0,0)) (by (with_reducible repeat (first|refine blk_drewN ?_ _|refine blk_drew ?_|refine blk_alloc ?_ _));exact BK533.out)):gb533≠gb532))
    have n17_:=Aside0.mk ((by rw [hg];exact Nat.ne_of_gt (blk_lt (g:=gb533) (o:=.cells #[.slice none 0 0] 87 (0,0)) (by (with_reducible repeat (first|refine blk_drewN ?_ _|refine blk_drew ?_|refine blk_alloc ?_ _));exact BK533.out)):gb532≠gb533))
    clear HO528
    clear HO531
    clear BK523
    clear BK524
    clear BK525
    clear BK533
    clear HB
    have HO528:=n0_
    have HO531:=n1_
    have BK523:=n2_
    have BK524:=n3_
    have BK525:=n4_
    have BK533:=n5_
    have HB:=n6_
    have BK532:=n7_
    have GW532:=n8_
    have GE532:=n9_
    have NB523_532:=n10_
    have NB532_523:=n11_
    have NB524_532:=n12_
    have NB532_524:=n13_
    have NB525_532:=n14_
    have NB532_525:=n15_
    have NB533_532:=n16_
    have NB532_533:=n17_
    clear n0_ n1_ n2_ n3_ n4_ n5_ n6_ n7_ n8_ n9_ n10_ n11_ n12_ n13_ n14_ n15_ n16_ n17_
    clear hb hbox hg
    refine hK.out _ _ ⟨(blk_cell BK523.out 0).trans rfl,(blk_cell BK523.out 1).trans rfl,(blk_cell BK524.out 0).trans rfl,(blk_cell BK524.out 1).trans rfl⟩ (fun hHeld=>?_)
    clear hK K
    refine norm_ (a':=?_) ?_ ?_
    rotate_left
    ·show Act.put _ (some 5) _=_
     simp only [Act.put,List.setIfInBounds_toArray,List.set_cons_zero,List.set_cons_succ,i64_w,i32_w]
     rfl
    exact norm_ (by first|(simp only [putAll,Act.put,List.setIfInBounds_toArray,List.set_cons_zero,List.set_cons_succ];done)|(simp only [putAll,Act.put,List.setIfInBounds_toArray,List.set_cons_zero,List.set_cons_succ];rfl)) (hJ2_5_6_7 (v527,v530,gb532,gb533) _ ⟨hHeld,(by (with_reducible repeat (first|apply rA_|apply rN_|apply rD_));exact HO528.out),(by (with_reducible repeat (first|apply rA_|apply rN_|apply rD_));exact HO531.out),(by (with_reducible repeat (first|refine blk_drewN ?_ _|refine blk_drew ?_|refine blk_alloc ?_ _));exact BK523.out),(by (with_reducible repeat (first|refine blk_drewN ?_ _|refine blk_drew ?_|refine blk_alloc ?_ _));exact BK524.out),(by (with_reducible repeat (first|refine blk_drewN ?_ _|refine blk_drew ?_|refine blk_alloc ?_ _));exact BK525.out),(by (with_reducible repeat (first|refine blk_drewN ?_ _|refine blk_drew ?_|refine blk_alloc ?_ _));exact BK532.out),(by (with_reducible repeat (first|refine blk_drewN ?_ _|refine blk_drew ?_|refine blk_alloc ?_ _));exact BK533.out),GW532.out,GE532.out,NB523_532.out,NB532_523.out,NB524_532.out,NB532_524.out,NB525_532.out,NB532_525.out,NB533_532.out,NB532_533.out,GW533.out,GE533.out,NB523_533.out,NB533_523.out,NB524_533.out,NB533_524.out,NB525_533.out,NB533_525.out,(by repeat (first|(with_reducible first|exact HB.out|apply bA_|apply bN_|apply bD_|refine below_set ?_ GE523.out|refine below_set ?_ GE524.out|refine below_set ?_ GE525.out|refine below_set ?_ GE533.out|refine below_set ?_ GE532.out)|exact HB.out))⟩)
  ·skip
   rintro ⟨v527,v530,gb532⟩ w13 ⟨hS_,h0_,h1_,h2_,h3_,h4_,h5_,h6_,h7_,h8_,h9_,h10_,h11_,h12_,h13_,h14_⟩
   have n0_:Aside0 (Kd.R Kd.string 9 w13 w.heap.size (fun k_=>some k_≠(v530:Value).ownBlock) v527 t526):=⟨h0_⟩
   have n1_:Aside0 (Kd.R Kd.string 9 w13 w.heap.size (fun k_=>some k_≠(v527:Value).ownBlock) v530 t529):=⟨h1_⟩
   have n2_:Aside0 (w13.heap[gb523]? = some (.cells #[.bool a0_0,.slice A0_1 l0_1.length c0_1] 38 (0,0))):=⟨h2_⟩
   have n3_:Aside0 (w13.heap[gb524]? = some (.cells #[.bool a1_0,.slice A1_1 l1_1.length c1_1] 38 (0,0))):=⟨h3_⟩
   have n4_:Aside0 (w13.heap[gb525]? = some (.cells #[.bool false,.slice none 0 0] 38 (0,0))):=⟨h4_⟩
   have n5_:Aside0 (w13.heap[gb532]? = some (.cells #[.slice none 0 0] 87 (0,0))):=⟨h5_⟩
   have n6_:Aside0 (w.heap.size≤gb532):=⟨h6_⟩
   have n7_:Aside0 (w.heap.size≤gb532):=⟨h7_⟩
   have n8_:Aside0 (gb523≠gb532):=⟨h8_⟩
   have n9_:Aside0 (gb532≠gb523):=⟨h9_⟩
   have n10_:Aside0 (gb524≠gb532):=⟨h10_⟩
   have n11_:Aside0 (gb532≠gb524):=⟨h11_⟩
   have n12_:Aside0 (gb525≠gb532):=⟨h12_⟩
   have n13_:Aside0 (gb532≠gb525):=⟨h13_⟩
   have n14_:Aside0 (Below w.heap.size w w13):=⟨h14_⟩
   clear BK523
   clear BK524
   clear BK525
   clear HB
   clear h0_ h1_ h2_ h3_ h4_ h5_ h6_ h7_ h8_ h9_ h10_ h11_ h12_ h13_ h14_
   have HO528:=n0_
   have HO531:=n1_
   have BK523:=n2_
   have BK524:=n3_
   have BK525:=n4_
   have BK532:=n5_
   have GW532:=n6_
   have GE532:=n7_
   have NB523_532:=n8_
   have NB532_523:=n9_
   have NB524_532:=n10_
   have NB532_524:=n11_
   have NB525_532:=n12_
   have NB532_525:=n13_
   have HB:=n14_
   clear n0_ n1_ n2_ n3_ n4_ n5_ n6_ n7_ n8_ n9_ n10_ n11_ n12_ n13_ n14_
   have hHeld:w13.cell? ⟨gb523,0,none⟩=some (.bool a0_0)∧w13.cell? ⟨gb523,1,none⟩=some (.slice A0_1 l0_1.length c0_1)∧w13.cell? ⟨gb524,0,none⟩=some (.bool a1_0)∧w13.cell? ⟨gb524,1,none⟩=some (.slice A1_1 l1_1.length c1_1):=hS_
   refine norm_ (a':=?_) ?_ ?_
   rotate_left
   ·simp only [putAll,Act.put,List.setIfInBounds_toArray,List.set_cons_zero,List.set_cons_succ]
    rfl
   refine one_ (i:=7) (N:=some 6) #[true,true,true,true,true,true,true,true,false,false] rfl rfl (one_of HT_.out (by kernel_rfl)) (by decide) (fun K hK=>?_)
   refine box_step ?hg (N:=6) ?hd (cs:=#[.slice none 0 0]) (t:=87) ?hr ?_;(case hd=>rfl);(case hg=>rfl);(case hr=>first|(go_simp;done)|(go_simp;rfl))
   intro gb533 hg w14 hbox hb
   have n0_:=Aside0.mk (Kd.R_below (by (with_reducible repeat (first|apply rA_|apply rN_|apply rD_));exact HO528.out) hb)
   have n1_:=Aside0.mk (Kd.R_below (by (with_reducible repeat (first|apply rA_|apply rN_|apply rD_));exact HO531.out) hb)
   have n2_:=Aside0.mk (blk_below (g:=gb523) (o:=.cells #[.bool a0_0,.slice A0_1 l0_1.length c0_1] 38 (0,0)) (by (with_reducible repeat (first|refine blk_drewN ?_ _|refine blk_drew ?_|refine blk_alloc ?_ _));exact BK523.out) hb)
   have n3_:=Aside0.mk (blk_below (g:=gb524) (o:=.cells #[.bool a1_0,.slice A1_1 l1_1.length c1_1] 38 (0,0)) (by (with_reducible repeat (first|refine blk_drewN ?_ _|refine blk_drew ?_|refine blk_alloc ?_ _));exact BK524.out) hb)
   have n4_:=Aside0.mk (blk_below (g:=gb525) (o:=.cells #[.bool false,.slice none 0 0] 38 (0,0)) (by (with_reducible repeat (first|refine blk_drewN ?_ _|refine blk_drew ?_|refine blk_alloc ?_ _));exact BK525.out) hb)
   have n5_:=Aside0.mk (blk_below (g:=gb532) (o:=.cells #[.slice none 0 0] 87 (0,0)) (by (with_reducible repeat (first|refine blk_drewN ?_ _|refine blk_drew ?_|refine blk_alloc ?_ _));exact BK532.out) hb)
   have n6_:=Aside0.mk (below_step (by repeat (first|(with_reducible first|exact HB.out|apply bA_|apply bN_|apply bD_|refine below_set ?_ GE523.out|refine below_set ?_ GE524.out|refine below_set ?_ GE525.out|refine below_set ?_ GE532.out)|exact HB.out)) hb)
   have n7_:=Aside0.mk (hbox)
   have n8_:=Aside0.mk ((by rw [hg];exact (below_size (by repeat (first|(with_reducible first|exact HB.out|apply bA_|apply bN_|apply bD_|refine below_set ?_ GE523.out|refine below_set ?_ GE524.out|refine below_set ?_ GE525.out|refine below_set ?_ GE532.out)|exact HB.out))):w.heap.size≤gb533))
   have n9_:=Aside0.mk ((by rw [hg];exact (below_size (by repeat (first|(with_reducible first|exact HB.out|apply bA_|apply bN_|apply bD_|refine below_set ?_ GE523.out|refine below_set ?_ GE524.out|refine below_set ?_ GE525.out|refine below_set ?_ GE532.out)|exact HB.out))):w.heap.size≤gb533))
   have n10_:=Aside0.mk ((by rw [hg];exact Nat.ne_of_lt (blk_lt (g:=gb523) (o:=.cells #[.bool a0_0,.slice A0_1 l0_1.length c0_1] 38 (0,0)) (by (with_reducible repeat (first|refine blk_drewN ?_ _|refine blk_drew ?_|refine blk_alloc ?_ _));exact BK523.out)):gb523≠gb533))
   have n11_:=Aside0.mk ((by rw [hg];exact Nat.ne_of_gt (blk_lt (g:=gb523) (o:=.cells #[.bool a0_0,.slice A0_1 l0_1.length c0_1] 38 (0,0)) (by (with_reducible repeat (first|refine blk_drewN ?_ _|refine blk_drew ?_|refine blk_alloc ?_ _));exact BK523.out)):gb533≠gb523))
   have n12_:=Aside0.mk ((by rw [hg];exact Nat.ne_of_lt (blk_lt (g:=gb524) (o:=.cells #[.bool a1_0,.slice A1_1 l1_1.length c1_1] 38 (0,0)) (by (with_reducible repeat (first|refine blk_drewN ?_ _|refine blk_drew ?_|refine blk_alloc ?_ _));exact BK524.out)):gb524≠gb533))
   have n13_:=Aside0.mk ((by rw [hg];exact Nat.ne_of_gt (blk_lt (g:=gb524) (o:=.cells #[.bool a1_0,.slice A1_1 l1_1.length c1_1] 38 (0,0)) (by (with_reducible repeat (first|refine blk_drewN ?_ _|refine blk_drew ?_|refine blk_alloc ?_ _));exact BK524.out)):gb533≠gb524))
   have n14_:=Aside0.mk ((by rw [hg];exact Nat.ne_of_lt (blk_lt (g:=gb525) (o:=.cells #[.bool false,.slice none 0 0] 38 (0,0)) (by (with_reducible repeat (first|refine blk_drewN ?_ _|refine blk_drew ?_|refine blk_alloc ?_ _));exact BK525.out)):gb525≠gb533))
   have n15_:=Aside0.mk ((by rw [hg];exact Nat.ne_of_gt (blk_lt (g:=gb525) (o:=.cells #[.bool false,.slice none 0 0] 38 (0,0)) (by (with_reducible repeat (first|refine blk_drewN ?_ _|refine blk_drew ?_|refine blk_alloc ?_ _));exact BK525.out)):gb533≠gb525))
   have n16_:=Aside0.mk ((by rw [hg];exact Nat.ne_of_lt (blk_lt (g:=gb532) (o:=.cells #[.slice none 0 0] 87 (0,0)) (by (with_reducible repeat (first|refine blk_drewN ?_ _|refine blk_drew ?_|refine blk_alloc ?_ _));exact BK532.out)):gb532≠gb533))
   have n17_:=Aside0.mk ((by rw [hg];exact Nat.ne_of_gt (blk_lt (g:=gb532) (o:=.cells #[.slice none 0 0] 87 (0,0)) (by (with_reducible repeat (first|refine blk_drewN ?_ _|refine blk_drew ?_|refine blk_alloc ?_ _));exact BK532.out)):gb533≠gb532))
   clear HO528
   clear HO531
   clear BK523
   clear BK524
   clear BK525
   clear BK532
   clear HB
   have HO528:=n0_
   have HO531:=n1_
   have BK523:=n2_
   have BK524:=n3_
   have BK525:=n4_
   have BK532:=n5_
   have HB:=n6_
   have BK533:=n7_
   have GW533:=n8_
   have GE533:=n9_
   have NB523_533:=n10_
   have NB533_523:=n11_
   have NB524_533:=n12_
   have NB533_524:=n13_
   have NB525_533:=n14_
   have NB533_525:=n15_
   have NB532_533:=n16_
   have NB533_532:=n17_
   clear n0_ n1_ n2_ n3_ n4_ n5_ n6_ n7_ n8_ n9_ n10_ n11_ n12_ n13_ n14_ n15_ n16_ n17_
   clear hb hbox hg
   refine hK.out _ _ ⟨(blk_cell BK523.out 0).trans rfl,(blk_cell BK523.out 1).trans rfl,(blk_cell BK524.out 0).trans rfl,(blk_cell BK524.out 1).trans rfl⟩ (fun hHeld=>?_)
   clear hK K
   refine norm_ (a':=?_) ?_ ?_
   rotate_left
   ·show Act.put _ (some 6) _=_
    simp only [Act.put,List.setIfInBounds_toArray,List.set_cons_zero,List.set_cons_succ,i64_w,i32_w]
    rfl
   exact norm_ (by first|(simp only [putAll,Act.put,List.setIfInBounds_toArray,List.set_cons_zero,List.set_cons_succ];done)|(simp only [putAll,Act.put,List.setIfInBounds_toArray,List.set_cons_zero,List.set_cons_succ];rfl)) (hJ2_5_6_7 (v527,v530,gb532,gb533) _ ⟨hHeld,(by (with_reducible repeat (first|apply rA_|apply rN_|apply rD_));exact HO528.out),(by (with_reducible repeat (first|apply rA_|apply rN_|apply rD_));exact HO531.out),(by (with_reducible repeat (first|refine blk_drewN ?_ _|refine blk_drew ?_|refine blk_alloc ?_ _));exact BK523.out),(by (with_reducible repeat (first|refine blk_drewN ?_ _|refine blk_drew ?_|refine blk_alloc ?_ _));exact BK524.out),(by (with_reducible repeat (first|refine blk_drewN ?_ _|refine blk_drew ?_|refine blk_alloc ?_ _));exact BK525.out),(by (with_reducible repeat (first|refine blk_drewN ?_ _|refine blk_drew ?_|refine blk_alloc ?_ _));exact BK532.out),(by (with_reducible repeat (first|refine blk_drewN ?_ _|refine blk_drew ?_|refine blk_alloc ?_ _));exact BK533.out),GW532.out,GE532.out,NB523_532.out,NB532_523.out,NB524_532.out,NB532_524.out,NB525_532.out,NB532_525.out,NB533_532.out,NB532_533.out,GW533.out,GE533.out,NB523_533.out,NB533_523.out,NB524_533.out,NB533_524.out,NB525_533.out,NB533_525.out,(by repeat (first|(with_reducible first|exact HB.out|apply bA_|apply bN_|apply bD_|refine below_set ?_ GE523.out|refine below_set ?_ GE524.out|refine below_set ?_ GE525.out|refine below_set ?_ GE532.out|refine below_set ?_ GE533.out)|exact HB.out))⟩)
 rintro ⟨v527,v530,gb532,gb533⟩ w14 ⟨hS_,h0_,h1_,h2_,h3_,h4_,h5_,h6_,h7_,h8_,h9_,h10_,h11_,h12_,h13_,h14_,h15_,h16_,h17_,h18_,h19_,h20_,h21_,h22_,h23_,h24_,h25_⟩
 have n0_:Aside0 (Kd.R Kd.string 9 w14 w.heap.size (fun k_=>some k_≠(v530:Value).ownBlock) v527 t526):=⟨h0_⟩
 have n1_:Aside0 (Kd.R Kd.string 9 w14 w.heap.size (fun k_=>some k_≠(v527:Value).ownBlock) v530 t529):=⟨h1_⟩
 have n2_:Aside0 (w14.heap[gb523]? = some (.cells #[.bool a0_0,.slice A0_1 l0_1.length c0_1] 38 (0,0))):=⟨h2_⟩
 have n3_:Aside0 (w14.heap[gb524]? = some (.cells #[.bool a1_0,.slice A1_1 l1_1.length c1_1] 38 (0,0))):=⟨h3_⟩
 have n4_:Aside0 (w14.heap[gb525]? = some (.cells #[.bool false,.slice none 0 0] 38 (0,0))):=⟨h4_⟩
 have n5_:Aside0 (w14.heap[gb532]? = some (.cells #[.slice none 0 0] 87 (0,0))):=⟨h5_⟩
 have n6_:Aside0 (w14.heap[gb533]? = some (.cells #[.slice none 0 0] 87 (0,0))):=⟨h6_⟩
 have n7_:Aside0 (w.heap.size≤gb532):=⟨h7_⟩
 have n8_:Aside0 (w.heap.size≤gb532):=⟨h8_⟩
 have n9_:Aside0 (gb523≠gb532):=⟨h9_⟩
 have n10_:Aside0 (gb532≠gb523):=⟨h10_⟩
 have n11_:Aside0 (gb524≠gb532):=⟨h11_⟩
 have n12_:Aside0 (gb532≠gb524):=⟨h12_⟩
 have n13_:Aside0 (gb525≠gb532):=⟨h13_⟩
 have n14_:Aside0 (gb532≠gb525):=⟨h14_⟩
 have n15_:Aside0 (gb533≠gb532):=⟨h15_⟩
 have n16_:Aside0 (gb532≠gb533):=⟨h16_⟩
 have n17_:Aside0 (w.heap.size≤gb533):=⟨h17_⟩
 have n18_:Aside0 (w.heap.size≤gb533):=⟨h18_⟩
 have n19_:Aside0 (gb523≠gb533):=⟨h19_⟩
 have n20_:Aside0 (gb533≠gb523):=⟨h20_⟩
 have n21_:Aside0 (gb524≠gb533):=⟨h21_⟩
 have n22_:Aside0 (gb533≠gb524):=⟨h22_⟩
 have n23_:Aside0 (gb525≠gb533):=⟨h23_⟩
 have n24_:Aside0 (gb533≠gb525):=⟨h24_⟩
 have n25_:Aside0 (Below w.heap.size w w14):=⟨h25_⟩
 clear BK523
 clear BK524
 clear BK525
 clear HB
 clear h0_ h1_ h2_ h3_ h4_ h5_ h6_ h7_ h8_ h9_ h10_ h11_ h12_ h13_ h14_ h15_ h16_ h17_ h18_ h19_ h20_ h21_ h22_ h23_ h24_ h25_
 have HO528:=n0_
 have HO531:=n1_
 have BK523:=n2_
 have BK524:=n3_
 have BK525:=n4_
 have BK532:=n5_
 have BK533:=n6_
 have GW532:=n7_
 have GE532:=n8_
 have NB523_532:=n9_
 have NB532_523:=n10_
 have NB524_532:=n11_
 have NB532_524:=n12_
 have NB525_532:=n13_
 have NB532_525:=n14_
 have NB533_532:=n15_
 have NB532_533:=n16_
 have GW533:=n17_
 have GE533:=n18_
 have NB523_533:=n19_
 have NB533_523:=n20_
 have NB524_533:=n21_
 have NB533_524:=n22_
 have NB525_533:=n23_
 have NB533_525:=n24_
 have HB:=n25_
 clear n0_ n1_ n2_ n3_ n4_ n5_ n6_ n7_ n8_ n9_ n10_ n11_ n12_ n13_ n14_ n15_ n16_ n17_ n18_ n19_ n20_ n21_ n22_ n23_ n24_ n25_
 have hHeld:w14.cell? ⟨gb523,0,none⟩=some (.bool a0_0)∧w14.cell? ⟨gb523,1,none⟩=some (.slice A0_1 l0_1.length c0_1)∧w14.cell? ⟨gb524,0,none⟩=some (.bool a1_0)∧w14.cell? ⟨gb524,1,none⟩=some (.slice A1_1 l1_1.length c1_1):=hS_
 obtain ⟨Ao15,co15,eo15⟩:=Kd.R_slice HO528.out
 (first|subst eo15|(injection eo15 with f1_ f2_ f3_;have f4_:=f1_.symm;have f5_:=f3_.symm;clear f1_ f2_ f3_;subst f4_;subst f5_))
 obtain ⟨Ao17,co17,eo17⟩:=Kd.R_slice HO531.out
 (first|subst eo17|(injection eo17 with f1_ f2_ f3_;have f4_:=f1_.symm;have f5_:=f3_.symm;clear f1_ f2_ f3_;subst f4_;subst f5_))
 refine norm_ (a':=?_) ?_ ?_
 rotate_left
 ·simp only [putAll,Act.put,List.setIfInBounds_toArray,List.set_cons_zero,List.set_cons_succ]
  rfl
 refine one_ (i:=8) (N:=none) #[true,true,true,true,true,true,true,true,true,false] rfl rfl (one_of HT_.out (by kernel_rfl)) (by decide) (fun K hK=>?_)
 have hs16:w14.cell? ⟨gb532,0,none⟩=some (.slice none 0 0):=(blk_cell BK532.out 0).trans rfl
 have hfs16:=blk_frozen BK532.out 0
 have hns16_0:=NB523_532.out
 have hns16_1:=NB524_532.out
 have hns16_2:=NB525_532.out
 have hns16_4:=NB533_532.out
 have hms16_0:=NB532_523.out
 have hms16_1:=NB532_524.out
 have hms16_2:=NB532_525.out
 have hms16_4:=NB532_533.out
 refine skip_ (w1:=?_) (by rfl) rfl ?_ ?_
 rotate_left
 ·go_simp
  rfl
 refine hK.out _ _ ⟨((cell_far (p:=⟨gb532,_,none⟩) NB523_532.out _).trans (hHeld.1)),((cell_far (p:=⟨gb532,_,none⟩) NB523_532.out _).trans (hHeld.2.1)),((cell_far (p:=⟨gb532,_,none⟩) NB524_532.out _).trans (hHeld.2.2.1)),((cell_far (p:=⟨gb532,_,none⟩) NB524_532.out _).trans (hHeld.2.2.2))⟩ (fun hHeld=>?_)
 clear hK K
 refine one_ (i:=9) (N:=none) #[true,true,true,true,true,true,true,true,true,true] rfl rfl (one_of HT_.out (by kernel_rfl)) (by decide) (fun K hK=>?_)
 have hs18:w14.cell? ⟨gb533,0,none⟩=some (.slice none 0 0):=(blk_cell BK533.out 0).trans rfl
 have hfs18:=blk_frozen BK533.out 0
 have hns18_0:=NB523_533.out
 have hns18_1:=NB524_533.out
 have hns18_2:=NB525_533.out
 have hns18_3:=NB532_533.out
 have hms18_0:=NB533_523.out
 have hms18_1:=NB533_524.out
 have hms18_2:=NB533_525.out
 have hms18_3:=NB533_532.out
 refine skip_ (w1:=?_) (by rfl) rfl ?_ ?_
 rotate_left
 ·go_simp
  rfl
 refine hK.out _ _ ⟨((cell_far (p:=⟨gb533,_,none⟩) NB523_533.out _).trans (hHeld.1)),((cell_far (p:=⟨gb533,_,none⟩) NB523_533.out _).trans (hHeld.2.1)),((cell_far (p:=⟨gb533,_,none⟩) NB524_533.out _).trans (hHeld.2.2.1)),((cell_far (p:=⟨gb533,_,none⟩) NB524_533.out _).trans (hHeld.2.2.2))⟩ (fun hHeld=>?_)
 clear hK K
 refine done_ (done_of HT_.out (by kernel_rfl)) ?_
 go_upto_region 2 with (fail)
 go_cut [13] (fun v13 wc=>∃ (kq:Nat) (x13_4:Bool),v13=.bool x13_4∧Aside0 (names_Both.j0 kq x13_4 a0_0 l0_1 a1_0 l1_1 t526 t529=some (r1,r2))∧Aside0 (kq≤k)∧Aside0 (Kd.R Kd.string 9 wc w.heap.size (fun k_=>some k_≠((.slice Ao17 t529.length co17):Value).ownBlock) (.slice Ao15 t526.length co15) t526)∧Aside0 (Kd.R Kd.string 9 wc w.heap.size (fun k_=>some k_≠((.slice Ao15 t526.length co15):Value).ownBlock) (.slice Ao17 t529.length co17) t529)∧Aside0 (wc.heap[gb523]? = some (.cells #[.bool a0_0,(.slice A0_1 l0_1.length c0_1)] 38 (0,0)))∧Aside0 (wc.heap[gb524]? = some (.cells #[.bool a1_0,(.slice A1_1 l1_1.length c1_1)] 38 (0,0)))∧Aside0 (wc.heap[gb525]? = some (.cells #[.bool false,(.slice none 0 0)] 38 (0,0)))∧Aside0 (wc.heap[gb532]? = some (.cells #[(.slice Ao15 t526.length co15)] 87 (0,0)))∧Aside0 (wc.heap[gb533]? = some (.cells #[(.slice Ao17 t529.length co17)] 87 (0,0)))∧Aside0 (Below w.heap.size w wc))
 case first =>
  have H:=HC5.out
  clear HC5
  by_cases c19:a0_0=true
  ·subst c19
   have H1:(names_Both.j0 k a1_0 true l0_1 a1_0 l1_1 t526 t529)=some (r1,r2):=by rw [if_pos rfl] at H;exact H
   clear H
   have H:=H1
   clear H1
   have H':=Aside0.mk H
   clear H
   have hnb20:=NB523_524.out
   have hnc20:=NB524_523.out
   have hnb21:=NB523_525.out
   have hnc21:=NB525_523.out
   have hnb22:=NB523_532.out
   have hnc22:=NB532_523.out
   have hnb23:=NB523_533.out
   have hnc23:=NB533_523.out
   have hcz24_0:w14.cell? ⟨gb523,0,none⟩=some (.bool true):=(blk_cell BK523.out 0).trans rfl
   have hcz24_1:w14.cell? ⟨gb523,1,none⟩=some (.slice A0_1 l0_1.length c0_1):=(blk_cell BK523.out 1).trans rfl
   have hfz24_0:=blk_frozen BK523.out 0
   have hfz24_1:=blk_frozen BK523.out 1
   have hnb25:=NB524_525.out
   have hnc25:=NB525_524.out
   have hnb26:=NB524_532.out
   have hnc26:=NB532_524.out
   have hnb27:=NB524_533.out
   have hnc27:=NB533_524.out
   have hcz28_0:w14.cell? ⟨gb524,0,none⟩=some (.bool a1_0):=(blk_cell BK524.out 0).trans rfl
   have hcz28_1:w14.cell? ⟨gb524,1,none⟩=some (.slice A1_1 l1_1.length c1_1):=(blk_cell BK524.out 1).trans rfl
   have hfz28_0:=blk_frozen BK524.out 0
   have hfz28_1:=blk_frozen BK524.out 1
   go_wp2
   go_meet
   case rel=>exact ⟨_,(a1_0),(by first|rfl|(simp;done)|(simp [*];done)),H',⟨by first|omega|exact Nat.le_refl _⟩,⟨by (with_reducible repeat (first|apply rA_|apply rN_|apply rD_));exact Kd.R_mono (Kd.R_far (p:=⟨gb533,0,none⟩) (Kd.R_far (p:=⟨gb532,0,none⟩) (Kd.R_types (Kd.R_types HO528.out BK532.out (by decide)) BK533.out (by decide)) (fun _ hk=>hk.1.2) (.slice Ao15 t526.length co15)) (fun _ hk=>hk.2) (.slice Ao17 t529.length co17)) (fun _ hk=>hk.1.1)⟩,⟨by (with_reducible repeat (first|apply rA_|apply rN_|apply rD_));exact Kd.R_mono (Kd.R_far (p:=⟨gb533,0,none⟩) (Kd.R_far (p:=⟨gb532,0,none⟩) (Kd.R_types (Kd.R_types HO531.out BK532.out (by decide)) BK533.out (by decide)) (fun _ hk=>hk.1.2) (.slice Ao15 t526.length co15)) (fun _ hk=>hk.2) (.slice Ao17 t529.length co17)) (fun _ hk=>hk.1.1)⟩,⟨by (with_reducible repeat (first|refine blk_drewN ?_ _|refine blk_drew ?_|refine blk_alloc ?_ _));refine blk_far ?_ NB523_533.out _;(with_reducible repeat (first|refine blk_drewN ?_ _|refine blk_drew ?_|refine blk_alloc ?_ _));refine blk_far ?_ NB523_532.out _;(with_reducible repeat (first|refine blk_drewN ?_ _|refine blk_drew ?_|refine blk_alloc ?_ _));exact BK523.out⟩,⟨by (with_reducible repeat (first|refine blk_drewN ?_ _|refine blk_drew ?_|refine blk_alloc ?_ _));refine blk_far ?_ NB524_533.out _;(with_reducible repeat (first|refine blk_drewN ?_ _|refine blk_drew ?_|refine blk_alloc ?_ _));refine blk_far ?_ NB524_532.out _;(with_reducible repeat (first|refine blk_drewN ?_ _|refine blk_drew ?_|refine blk_alloc ?_ _));exact BK524.out⟩,⟨by (with_reducible repeat (first|refine blk_drewN ?_ _|refine blk_drew ?_|refine blk_alloc ?_ _));refine blk_far ?_ NB525_533.out _;(with_reducible repeat (first|refine blk_drewN ?_ _|refine blk_drew ?_|refine blk_alloc ?_ _));refine blk_far ?_ NB525_532.out _;(with_reducible repeat (first|refine blk_drewN ?_ _|refine blk_drew ?_|refine blk_alloc ?_ _));exact BK525.out⟩,⟨by (with_reducible repeat (first|refine blk_drewN ?_ _|refine blk_drew ?_|refine blk_alloc ?_ _));refine blk_far ?_ NB532_533.out _;(with_reducible repeat (first|refine blk_drewN ?_ _|refine blk_drew ?_|refine blk_alloc ?_ _));refine blk_put (cs:=#[.slice none 0 0]) ?_ 0 _ rfl;(with_reducible repeat (first|refine blk_drewN ?_ _|refine blk_drew ?_|refine blk_alloc ?_ _));exact BK532.out⟩,⟨by (with_reducible repeat (first|refine blk_drewN ?_ _|refine blk_drew ?_|refine blk_alloc ?_ _));refine blk_put (cs:=#[.slice none 0 0]) ?_ 0 _ rfl;(with_reducible repeat (first|refine blk_drewN ?_ _|refine blk_drew ?_|refine blk_alloc ?_ _));refine blk_far ?_ NB533_532.out _;(with_reducible repeat (first|refine blk_drewN ?_ _|refine blk_drew ?_|refine blk_alloc ?_ _));exact BK533.out⟩,⟨by repeat (first|(with_reducible first|exact HB.out|apply bA_|apply bN_|apply bD_|refine below_set ?_ GE523.out|refine below_set ?_ GE524.out|refine below_set ?_ GE525.out|refine below_set ?_ GE532.out|refine below_set ?_ GE533.out)|exact HB.out)⟩⟩
  ·replace c19:=Bool.eq_false_iff.mpr c19
   subst c19
   have H1:(names_Both.j0 k false false l0_1 a1_0 l1_1 t526 t529)=some (r1,r2):=by rw [if_neg (show ¬ (false=true) by decide)] at H;exact H
   clear H
   have H:=H1
   clear H1
   have H':=Aside0.mk H
   clear H
   have hnb29:=NB523_524.out
   have hnc29:=NB524_523.out
   have hnb30:=NB523_525.out
   have hnc30:=NB525_523.out
   have hnb31:=NB523_532.out
   have hnc31:=NB532_523.out
   have hnb32:=NB523_533.out
   have hnc32:=NB533_523.out
   have hcz33_0:w14.cell? ⟨gb523,0,none⟩=some (.bool false):=(blk_cell BK523.out 0).trans rfl
   have hcz33_1:w14.cell? ⟨gb523,1,none⟩=some (.slice A0_1 l0_1.length c0_1):=(blk_cell BK523.out 1).trans rfl
   have hfz33_0:=blk_frozen BK523.out 0
   have hfz33_1:=blk_frozen BK523.out 1
   go_wp2
   go_meet
   case rel=>exact ⟨_,(false),(by first|rfl|(simp;done)|(simp [*];done)),H',⟨by first|omega|exact Nat.le_refl _⟩,⟨by (with_reducible repeat (first|apply rA_|apply rN_|apply rD_));exact Kd.R_mono (Kd.R_far (p:=⟨gb533,0,none⟩) (Kd.R_far (p:=⟨gb532,0,none⟩) (Kd.R_types (Kd.R_types HO528.out BK532.out (by decide)) BK533.out (by decide)) (fun _ hk=>hk.1.2) (.slice Ao15 t526.length co15)) (fun _ hk=>hk.2) (.slice Ao17 t529.length co17)) (fun _ hk=>hk.1.1)⟩,⟨by (with_reducible repeat (first|apply rA_|apply rN_|apply rD_));exact Kd.R_mono (Kd.R_far (p:=⟨gb533,0,none⟩) (Kd.R_far (p:=⟨gb532,0,none⟩) (Kd.R_types (Kd.R_types HO531.out BK532.out (by decide)) BK533.out (by decide)) (fun _ hk=>hk.1.2) (.slice Ao15 t526.length co15)) (fun _ hk=>hk.2) (.slice Ao17 t529.length co17)) (fun _ hk=>hk.1.1)⟩,⟨by (with_reducible repeat (first|refine blk_drewN ?_ _|refine blk_drew ?_|refine blk_alloc ?_ _));refine blk_far ?_ NB523_533.out _;(with_reducible repeat (first|refine blk_drewN ?_ _|refine blk_drew ?_|refine blk_alloc ?_ _));refine blk_far ?_ NB523_532.out _;(with_reducible repeat (first|refine blk_drewN ?_ _|refine blk_drew ?_|refine blk_alloc ?_ _));exact BK523.out⟩,⟨by (with_reducible repeat (first|refine blk_drewN ?_ _|refine blk_drew ?_|refine blk_alloc ?_ _));refine blk_far ?_ NB524_533.out _;(with_reducible repeat (first|refine blk_drewN ?_ _|refine blk_drew ?_|refine blk_alloc ?_ _));refine blk_far ?_ NB524_532.out _;(with_reducible repeat (first|refine blk_drewN ?_ _|refine blk_drew ?_|refine blk_alloc ?_ _));exact BK524.out⟩,⟨by (with_reducible repeat (first|refine blk_drewN ?_ _|refine blk_drew ?_|refine blk_alloc ?_ _));refine blk_far ?_ NB525_533.out _;(with_reducible repeat (first|refine blk_drewN ?_ _|refine blk_drew ?_|refine blk_alloc ?_ _));refine blk_far ?_ NB525_532.out _;(with_reducible repeat (first|refine blk_drewN ?_ _|refine blk_drew ?_|refine blk_alloc ?_ _));exact BK525.out⟩,⟨by (with_reducible repeat (first|refine blk_drewN ?_ _|refine blk_drew ?_|refine blk_alloc ?_ _));refine blk_far ?_ NB532_533.out _;(with_reducible repeat (first|refine blk_drewN ?_ _|refine blk_drew ?_|refine blk_alloc ?_ _));refine blk_put (cs:=#[.slice none 0 0]) ?_ 0 _ rfl;(with_reducible repeat (first|refine blk_drewN ?_ _|refine blk_drew ?_|refine blk_alloc ?_ _));exact BK532.out⟩,⟨by (with_reducible repeat (first|refine blk_drewN ?_ _|refine blk_drew ?_|refine blk_alloc ?_ _));refine blk_put (cs:=#[.slice none 0 0]) ?_ 0 _ rfl;(with_reducible repeat (first|refine blk_drewN ?_ _|refine blk_drew ?_|refine blk_alloc ?_ _));refine blk_far ?_ NB533_532.out _;(with_reducible repeat (first|refine blk_drewN ?_ _|refine blk_drew ?_|refine blk_alloc ?_ _));exact BK533.out⟩,⟨by repeat (first|(with_reducible first|exact HB.out|apply bA_|apply bN_|apply bD_|refine below_set ?_ GE523.out|refine below_set ?_ GE524.out|refine below_set ?_ GE525.out|refine below_set ?_ GE532.out|refine below_set ?_ GE533.out)|exact HB.out)⟩⟩
 case rest =>
  clear HC5
  try clear c1
  try clear c2
  try clear p2
  try clear c3
  try clear c6
  try clear c19
  try clear c20
  try clear c21
  try clear c22
  try clear c23
  try clear c25
  try clear c26
  try clear c27
  try clear c29
  try clear c30
  try clear c31
  try clear c32
  try clear hcz24_0
  try clear hcz24_1
  try clear hcz28_0
  try clear hcz28_1
  try clear hcz33_0
  try clear hcz33_1
  try clear hfz24_0
  try clear hfz24_1
  try clear hfz28_0
  try clear hfz28_1
  try clear hfz33_0
  try clear hfz33_1
  obtain ⟨kq,x13_4,rfl,HA,HJ4,HO_533000,HO_534000,BK523,BK524,BK525,BK532,BK533,HB⟩:=hcut
  cases kq with
  | zero=>exact absurd HA.out (by simp [names_Both.j0])
  | succ kj4 =>
   have H:=HA.out
   clear HA
   simp only [names_Both.j0] at H
   by_cases c34:x13_4=true
   ·subst c34
    have H1:((names_set_string_with.f t526 t529).bind fun t534=>(some (true,t534)))=some (r1,r2):=by rw [if_pos rfl] at H;exact H
    clear H
    have H:=H1
    clear H1
    replace H:=Option.bind_eq_some_iff.mp H
    obtain ⟨t534,A350,H⟩:=H
    replace H:(some (true,t534))=some (r1,r2):=H
    have A35:=Aside0.mk A350
    clear A350
    simp only [Option.some.injEq,Prod.mk.injEq] at H
    obtain ⟨rfl,rfl⟩:=H
    have hnb36:=NB532_523.out
    have hnc36:=NB523_532.out
    have hnb37:=NB532_524.out
    have hnc37:=NB524_532.out
    have hnb38:=NB532_525.out
    have hnc38:=NB525_532.out
    have hnb39:=NB532_533.out
    have hnc39:=NB533_532.out
    have hcz40_0:wc.cell? ⟨gb532,0,none⟩=some (.slice Ao15 t526.length co15):=(blk_cell BK532.out 0).trans rfl
    have hfz40_0:=blk_frozen BK532.out 0
    have hnb41:=NB533_523.out
    have hnc41:=NB523_533.out
    have hnb42:=NB533_524.out
    have hnc42:=NB524_533.out
    have hnb43:=NB533_525.out
    have hnc43:=NB525_533.out
    have hcz44_0:wc.cell? ⟨gb533,0,none⟩=some (.slice Ao17 t529.length co17):=(blk_cell BK533.out 0).trans rfl
    have hfz44_0:=blk_frozen BK533.out 0
    go_wp2_with (first|((with_reducible refine gate_callee (f:=62) rfl ?_);refine goesL_ (some 22) rfl rfl Try.func62 (by kernel_rfl) rfl #[.agg #[.slice Ao15 t526.length co15],.agg #[.slice Ao17 t529.length co17]] rfl (by (try simp only [List.map_toArray,List.map_cons,List.map_nil]);first|done|rfl|(simp only [List.length_drop,List.length_take];rfl)) ?_;(with_reducible refine (names_set_string_with.calls _ _ t526 _ _ t529 t534 _ ?side1 ?side2 ?side3 ?side4 A35.out).mono ?_);(case side1=>repeat (first|exact (Kd.R_reads' HO_533000.out).2.2|(with_reducible refine cA_ ?_ _)|(with_reducible refine cN_ ?_ _)|(with_reducible refine cD_ ?_)));(case side2=>exact (Kd.R_reads' HO_533000.out).2.1);(case side3=>repeat (first|exact (Kd.R_reads' HO_534000.out).2.2|(with_reducible refine cA_ ?_ _)|(with_reducible refine cN_ ?_ _)|(with_reducible refine cD_ ?_)));(case side4=>exact (Kd.R_reads' HO_534000.out).2.1);rintro e w45 ⟨v535,rfl,ho0,hb⟩;refine ⟨_,rfl,?_⟩;have n0_:=Aside0.mk (Kd.R_elder' (by (with_reducible repeat (first|apply rA_|apply rN_|apply rD_));exact HO_533000.out) (Kd.R_base ho0) hb);have n1_:=Aside0.mk (Kd.R_elder' (by (with_reducible repeat (first|apply rA_|apply rN_|apply rD_));exact HO_534000.out) (Kd.R_base ho0) hb);have n2_:=Aside0.mk (Kd.R_lower (Kd.R_new' (Kd.R_new' ho0 (Kd.R_lt (by (with_reducible repeat (first|apply rA_|apply rN_|apply rD_));exact HO_533000.out))) (Kd.R_lt (by (with_reducible repeat (first|apply rA_|apply rN_|apply rD_));exact HO_534000.out))) (below_size (by repeat (first|(with_reducible first|exact HB.out|apply bA_|apply bN_|apply bD_|refine below_set ?_ GE523.out|refine below_set ?_ GE524.out|refine below_set ?_ GE525.out|refine below_set ?_ GE532.out|refine below_set ?_ GE533.out)|exact HB.out))));have n3_:=Aside0.mk (blk_below (g:=gb523) (o:=.cells #[.bool a0_0,.slice A0_1 l0_1.length c0_1] 38 (0,0)) (by (with_reducible repeat (first|refine blk_drewN ?_ _|refine blk_drew ?_|refine blk_alloc ?_ _));exact BK523.out) hb);have n4_:=Aside0.mk (blk_below (g:=gb524) (o:=.cells #[.bool a1_0,.slice A1_1 l1_1.length c1_1] 38 (0,0)) (by (with_reducible repeat (first|refine blk_drewN ?_ _|refine blk_drew ?_|refine blk_alloc ?_ _));exact BK524.out) hb);have n5_:=Aside0.mk (blk_below (g:=gb525) (o:=.cells #[.bool false,.slice none 0 0] 38 (0,0)) (by (with_reducible repeat (first|refine blk_drewN ?_ _|refine blk_drew ?_|refine blk_alloc ?_ _));exact BK525.out) hb);have n6_:=Aside0.mk (blk_below (g:=gb532) (o:=.cells #[.slice Ao15 t526.length co15] 87 (0,0)) (by (with_reducible repeat (first|refine blk_drewN ?_ _|refine blk_drew ?_|refine blk_alloc ?_ _));exact BK532.out) hb);have n7_:=Aside0.mk (blk_below (g:=gb533) (o:=.cells #[.slice Ao17 t529.length co17] 87 (0,0)) (by (with_reducible repeat (first|refine blk_drewN ?_ _|refine blk_drew ?_|refine blk_alloc ?_ _));exact BK533.out) hb);have n8_:=Aside0.mk (below_step (by repeat (first|(with_reducible first|exact HB.out|apply bA_|apply bN_|apply bD_|refine below_set ?_ GE523.out|refine below_set ?_ GE524.out|refine below_set ?_ GE525.out|refine below_set ?_ GE532.out|refine below_set ?_ GE533.out)|exact HB.out)) hb);clear HO_533000;clear HO_534000;clear BK523;clear BK524;clear BK525;clear BK532;clear BK533;clear HB;have HO_533000:=n0_;have HO_534000:=n1_;have HO536:=n2_;have BK523:=n3_;have BK524:=n4_;have BK525:=n5_;have BK532:=n6_;have BK533:=n7_;have HB:=n8_;clear n0_ n1_ n2_ n3_ n4_ n5_ n6_ n7_ n8_;(try clear hb);(try clear hb2);(try clear hk);(try clear hi);(try clear ho0);obtain ⟨Ao46,co46,eo46⟩:=Kd.R_slice HO536.out;subst eo46;have hnb47:=NB525_523.out;have hnc47:=NB523_525.out;have hnb48:=NB525_524.out;have hnc48:=NB524_525.out;have hcz49_0:w45.cell? ⟨gb525,0,none⟩=some (.bool false):=(blk_cell BK525.out 0).trans rfl;have hcz49_1:w45.cell? ⟨gb525,1,none⟩=some (.slice none 0 0):=(blk_cell BK525.out 1).trans rfl;have hfz49_0:=blk_frozen BK525.out 0;have hfz49_1:=blk_frozen BK525.out 1))
    refine bodyPost_ret (results_cell_row rfl _ _ gb525 38 #[.bool true,.slice Ao46 t534.length co46] (0,0) _ rfl (by (with_reducible repeat (first|refine blk_drewN ?_ _|refine blk_drew ?_|refine blk_alloc ?_ _));refine blk_put (cs:=#[.bool true,.slice none 0 0]) ?_ 1 _ rfl;(with_reducible repeat (first|refine blk_drewN ?_ _|refine blk_drew ?_|refine blk_alloc ?_ _));refine blk_put (cs:=#[.bool false,.slice none 0 0]) ?_ 0 _ rfl;(with_reducible repeat (first|refine blk_drewN ?_ _|refine blk_drew ?_|refine blk_alloc ?_ _));exact BK525.out) Try.underlying38 rfl (by kernel_rfl)) rfl ?_
    exact ⟨_,by first|rfl|(simp [errW_none,errW_some] <;> rfl)|(simp [*,errW_none,errW_some] <;> rfl),by (with_reducible repeat (first|apply rA_|apply rN_|apply rD_));exact Kd.R_mono (Kd.R_far (p:=⟨gb525,1,none⟩) (Kd.R_far (p:=⟨gb525,0,none⟩) (Kd.R_types HO536.out BK525.out (by decide)) (fun _ hk=>hk.2) (.bool true)) (fun _ hk=>hk.2) (.slice Ao46 t534.length co46)) (fun _ hk=>trivial),by repeat (first|(with_reducible first|exact HB.out|apply bA_|apply bN_|apply bD_|refine below_set ?_ GE523.out|refine below_set ?_ GE524.out|refine below_set ?_ GE525.out|refine below_set ?_ GE532.out|refine below_set ?_ GE533.out)|exact HB.out)⟩
   ·replace c34:=Bool.eq_false_iff.mpr c34
    subst c34
    have H1:(if a0_0=true then ((names_set_string_only.f kj4 t529 t526 false).bind fun t537=>(some (false,t537))) else (if a1_0=true then ((names_set_string_only.f kj4 t526 t529 false).bind fun t540=>(some (false,t540))) else ((names_set_string_only.f kj4 t526 t529 true).bind fun t543=>(some (false,t543)))))=some (r1,r2):=by rw [if_neg (show ¬ (false=true) by decide)] at H;exact H
    clear H
    have H:=H1
    clear H1
    by_cases c50:a0_0=true
    ·subst c50
     have H1:((names_set_string_only.f kj4 t529 t526 false).bind fun t537=>(some (false,t537)))=some (r1,r2):=by rw [if_pos rfl] at H;exact H
     clear H
     have H:=H1
     clear H1
     replace H:=Option.bind_eq_some_iff.mp H
     obtain ⟨t537,A510,H⟩:=H
     replace H:(some (false,t537))=some (r1,r2):=H
     have A51:=Aside0.mk A510
     clear A510
     simp only [Option.some.injEq,Prod.mk.injEq] at H
     obtain ⟨rfl,rfl⟩:=H
     have hnb52:=NB523_524.out
     have hnc52:=NB524_523.out
     have hnb53:=NB523_525.out
     have hnc53:=NB525_523.out
     have hnb54:=NB523_532.out
     have hnc54:=NB532_523.out
     have hnb55:=NB523_533.out
     have hnc55:=NB533_523.out
     have hcz56_0:wc.cell? ⟨gb523,0,none⟩=some (.bool true):=(blk_cell BK523.out 0).trans rfl
     have hcz56_1:wc.cell? ⟨gb523,1,none⟩=some (.slice A0_1 l0_1.length c0_1):=(blk_cell BK523.out 1).trans rfl
     have hfz56_0:=blk_frozen BK523.out 0
     have hfz56_1:=blk_frozen BK523.out 1
     have hnb57:=NB533_524.out
     have hnc57:=NB524_533.out
     have hnb58:=NB533_525.out
     have hnc58:=NB525_533.out
     have hnb59:=NB533_532.out
     have hnc59:=NB532_533.out
     have hcz60_0:wc.cell? ⟨gb533,0,none⟩=some (.slice Ao17 t529.length co17):=(blk_cell BK533.out 0).trans rfl
     have hfz60_0:=blk_frozen BK533.out 0
     have hnb61:=NB532_524.out
     have hnc61:=NB524_532.out
     have hnb62:=NB532_525.out
     have hnc62:=NB525_532.out
     have hcz63_0:wc.cell? ⟨gb532,0,none⟩=some (.slice Ao15 t526.length co15):=(blk_cell BK532.out 0).trans rfl
     have hfz63_0:=blk_frozen BK532.out 0
     go_wp2_with (first|((with_reducible refine gate_callee (f:=63) rfl ?_);refine goesL_ (some 30) rfl rfl Try.func63 (by kernel_rfl) rfl #[.agg #[.slice Ao17 t529.length co17],.agg #[.slice Ao15 t526.length co15],.bool false] rfl (by (try simp only [List.map_toArray,List.map_cons,List.map_nil]);first|done|rfl|(simp only [List.length_drop,List.length_take];rfl)) ?_;(with_reducible refine (names_set_string_only.calls kj4 _ _ t529 _ _ t526 false t537 _ ?side1 ?side2 ?side3 ?side4 A51.out).mono ?_);(case side1=>repeat (first|exact (Kd.R_reads' HO_534000.out).2.2|(with_reducible refine cA_ ?_ _)|(with_reducible refine cN_ ?_ _)|(with_reducible refine cD_ ?_)));(case side2=>exact (Kd.R_reads' HO_534000.out).2.1);(case side3=>repeat (first|exact (Kd.R_reads' HO_533000.out).2.2|(with_reducible refine cA_ ?_ _)|(with_reducible refine cN_ ?_ _)|(with_reducible refine cD_ ?_)));(case side4=>exact (Kd.R_reads' HO_533000.out).2.1);rintro e w64 ⟨v538,rfl,ho0,hb⟩;refine ⟨_,rfl,?_⟩;have n0_:=Aside0.mk (Kd.R_elder' (by (with_reducible repeat (first|apply rA_|apply rN_|apply rD_));exact HO_533000.out) (Kd.R_base ho0) hb);have n1_:=Aside0.mk (Kd.R_elder' (by (with_reducible repeat (first|apply rA_|apply rN_|apply rD_));exact HO_534000.out) (Kd.R_base ho0) hb);have n2_:=Aside0.mk (Kd.R_lower (Kd.R_new' (Kd.R_new' ho0 (Kd.R_lt (by (with_reducible repeat (first|apply rA_|apply rN_|apply rD_));exact HO_533000.out))) (Kd.R_lt (by (with_reducible repeat (first|apply rA_|apply rN_|apply rD_));exact HO_534000.out))) (below_size (by repeat (first|(with_reducible first|exact HB.out|apply bA_|apply bN_|apply bD_|refine below_set ?_ GE523.out|refine below_set ?_ GE524.out|refine below_set ?_ GE525.out|refine below_set ?_ GE532.out|refine below_set ?_ GE533.out)|exact HB.out))));have n3_:=Aside0.mk (blk_below (g:=gb523) (o:=.cells #[.bool true,.slice A0_1 l0_1.length c0_1] 38 (0,0)) (by (with_reducible repeat (first|refine blk_drewN ?_ _|refine blk_drew ?_|refine blk_alloc ?_ _));exact BK523.out) hb);have n4_:=Aside0.mk (blk_below (g:=gb524) (o:=.cells #[.bool a1_0,.slice A1_1 l1_1.length c1_1] 38 (0,0)) (by (with_reducible repeat (first|refine blk_drewN ?_ _|refine blk_drew ?_|refine blk_alloc ?_ _));exact BK524.out) hb);have n5_:=Aside0.mk (blk_below (g:=gb525) (o:=.cells #[.bool false,.slice none 0 0] 38 (0,0)) (by (with_reducible repeat (first|refine blk_drewN ?_ _|refine blk_drew ?_|refine blk_alloc ?_ _));exact BK525.out) hb);have n6_:=Aside0.mk (blk_below (g:=gb532) (o:=.cells #[.slice Ao15 t526.length co15] 87 (0,0)) (by (with_reducible repeat (first|refine blk_drewN ?_ _|refine blk_drew ?_|refine blk_alloc ?_ _));exact BK532.out) hb);have n7_:=Aside0.mk (blk_below (g:=gb533) (o:=.cells #[.slice Ao17 t529.length co17] 87 (0,0)) (by (with_reducible repeat (first|refine blk_drewN ?_ _|refine blk_drew ?_|refine blk_alloc ?_ _));exact BK533.out) hb);have n8_:=Aside0.mk (below_step (by repeat (first|(with_reducible first|exact HB.out|apply bA_|apply bN_|apply bD_|refine below_set ?_ GE523.out|refine below_set ?_ GE524.out|refine below_set ?_ GE525.out|refine below_set ?_ GE532.out|refine below_set ?_ GE533.out)|exact HB.out)) hb);clear HO_533000;clear HO_534000;clear BK523;clear BK524;clear BK525;clear BK532;clear BK533;clear HB;have HO_533000:=n0_;have HO_534000:=n1_;have HO539:=n2_;have BK523:=n3_;have BK524:=n4_;have BK525:=n5_;have BK532:=n6_;have BK533:=n7_;have HB:=n8_;clear n0_ n1_ n2_ n3_ n4_ n5_ n6_ n7_ n8_;(try clear hb);(try clear hb2);(try clear hk);(try clear hi);(try clear ho0);obtain ⟨Ao65,co65,eo65⟩:=Kd.R_slice HO539.out;subst eo65;have hnb66:=NB525_524.out;have hnc66:=NB524_525.out;have hcz67_0:w64.cell? ⟨gb525,0,none⟩=some (.bool false):=(blk_cell BK525.out 0).trans rfl;have hcz67_1:w64.cell? ⟨gb525,1,none⟩=some (.slice none 0 0):=(blk_cell BK525.out 1).trans rfl;have hfz67_0:=blk_frozen BK525.out 0;have hfz67_1:=blk_frozen BK525.out 1))
     refine bodyPost_ret (results_cell_row rfl _ _ gb525 38 #[.bool false,.slice Ao65 t537.length co65] (0,0) _ rfl (by (with_reducible repeat (first|refine blk_drewN ?_ _|refine blk_drew ?_|refine blk_alloc ?_ _));refine blk_put (cs:=#[.bool false,.slice none 0 0]) ?_ 1 _ rfl;(with_reducible repeat (first|refine blk_drewN ?_ _|refine blk_drew ?_|refine blk_alloc ?_ _));refine blk_put (cs:=#[.bool false,.slice none 0 0]) ?_ 0 _ rfl;(with_reducible repeat (first|refine blk_drewN ?_ _|refine blk_drew ?_|refine blk_alloc ?_ _));exact BK525.out) Try.underlying38 rfl (by kernel_rfl)) rfl ?_
     exact ⟨_,by first|rfl|(simp [errW_none,errW_some] <;> rfl)|(simp [*,errW_none,errW_some] <;> rfl),by (with_reducible repeat (first|apply rA_|apply rN_|apply rD_));exact Kd.R_mono (Kd.R_far (p:=⟨gb525,1,none⟩) (Kd.R_far (p:=⟨gb525,0,none⟩) (Kd.R_types HO539.out BK525.out (by decide)) (fun _ hk=>hk.2) (.bool false)) (fun _ hk=>hk.2) (.slice Ao65 t537.length co65)) (fun _ hk=>trivial),by repeat (first|(with_reducible first|exact HB.out|apply bA_|apply bN_|apply bD_|refine below_set ?_ GE523.out|refine below_set ?_ GE524.out|refine below_set ?_ GE525.out|refine below_set ?_ GE532.out|refine below_set ?_ GE533.out)|exact HB.out)⟩
    ·replace c50:=Bool.eq_false_iff.mpr c50
     subst c50
     have H1:(if a1_0=true then ((names_set_string_only.f kj4 t526 t529 false).bind fun t540=>(some (false,t540))) else ((names_set_string_only.f kj4 t526 t529 true).bind fun t543=>(some (false,t543))))=some (r1,r2):=by rw [if_neg (show ¬ (false=true) by decide)] at H;exact H
     clear H
     have H:=H1
     clear H1
     by_cases c68:a1_0=true
     ·subst c68
      have H1:((names_set_string_only.f kj4 t526 t529 false).bind fun t540=>(some (false,t540)))=some (r1,r2):=by rw [if_pos rfl] at H;exact H
      clear H
      have H:=H1
      clear H1
      replace H:=Option.bind_eq_some_iff.mp H
      obtain ⟨t540,A690,H⟩:=H
      replace H:(some (false,t540))=some (r1,r2):=H
      have A69:=Aside0.mk A690
      clear A690
      simp only [Option.some.injEq,Prod.mk.injEq] at H
      obtain ⟨rfl,rfl⟩:=H
      have hnb70:=NB523_524.out
      have hnc70:=NB524_523.out
      have hnb71:=NB523_525.out
      have hnc71:=NB525_523.out
      have hnb72:=NB523_532.out
      have hnc72:=NB532_523.out
      have hnb73:=NB523_533.out
      have hnc73:=NB533_523.out
      have hcz74_0:wc.cell? ⟨gb523,0,none⟩=some (.bool false):=(blk_cell BK523.out 0).trans rfl
      have hcz74_1:wc.cell? ⟨gb523,1,none⟩=some (.slice A0_1 l0_1.length c0_1):=(blk_cell BK523.out 1).trans rfl
      have hfz74_0:=blk_frozen BK523.out 0
      have hfz74_1:=blk_frozen BK523.out 1
      have hnb75:=NB524_525.out
      have hnc75:=NB525_524.out
      have hnb76:=NB524_532.out
      have hnc76:=NB532_524.out
      have hnb77:=NB524_533.out
      have hnc77:=NB533_524.out
      have hcz78_0:wc.cell? ⟨gb524,0,none⟩=some (.bool true):=(blk_cell BK524.out 0).trans rfl
      have hcz78_1:wc.cell? ⟨gb524,1,none⟩=some (.slice A1_1 l1_1.length c1_1):=(blk_cell BK524.out 1).trans rfl
      have hfz78_0:=blk_frozen BK524.out 0
      have hfz78_1:=blk_frozen BK524.out 1
      have hnb79:=NB532_525.out
      have hnc79:=NB525_532.out
      have hnb80:=NB532_533.out
      have hnc80:=NB533_532.out
      have hcz81_0:wc.cell? ⟨gb532,0,none⟩=some (.slice Ao15 t526.length co15):=(blk_cell BK532.out 0).trans rfl
      have hfz81_0:=blk_frozen BK532.out 0
      have hnb82:=NB533_525.out
      have hnc82:=NB525_533.out
      have hcz83_0:wc.cell? ⟨gb533,0,none⟩=some (.slice Ao17 t529.length co17):=(blk_cell BK533.out 0).trans rfl
      have hfz83_0:=blk_frozen BK533.out 0
      go_wp2_with (first|((with_reducible refine gate_callee (f:=63) rfl ?_);refine goesL_ (some 38) rfl rfl Try.func63 (by kernel_rfl) rfl #[.agg #[.slice Ao15 t526.length co15],.agg #[.slice Ao17 t529.length co17],.bool false] rfl (by (try simp only [List.map_toArray,List.map_cons,List.map_nil]);first|done|rfl|(simp only [List.length_drop,List.length_take];rfl)) ?_;(with_reducible refine (names_set_string_only.calls kj4 _ _ t526 _ _ t529 false t540 _ ?side1 ?side2 ?side3 ?side4 A69.out).mono ?_);(case side1=>repeat (first|exact (Kd.R_reads' HO_533000.out).2.2|(with_reducible refine cA_ ?_ _)|(with_reducible refine cN_ ?_ _)|(with_reducible refine cD_ ?_)));(case side2=>exact (Kd.R_reads' HO_533000.out).2.1);(case side3=>repeat (first|exact (Kd.R_reads' HO_534000.out).2.2|(with_reducible refine cA_ ?_ _)|(with_reducible refine cN_ ?_ _)|(with_reducible refine cD_ ?_)));(case side4=>exact (Kd.R_reads' HO_534000.out).2.1);rintro e w84 ⟨v541,rfl,ho0,hb⟩;refine ⟨_,rfl,?_⟩;have n0_:=Aside0.mk (Kd.R_elder' (by (with_reducible repeat (first|apply rA_|apply rN_|apply rD_));exact HO_533000.out) (Kd.R_base ho0) hb);have n1_:=Aside0.mk (Kd.R_elder' (by (with_reducible repeat (first|apply rA_|apply rN_|apply rD_));exact HO_534000.out) (Kd.R_base ho0) hb);have n2_:=Aside0.mk (Kd.R_lower (Kd.R_new' (Kd.R_new' ho0 (Kd.R_lt (by (with_reducible repeat (first|apply rA_|apply rN_|apply rD_));exact HO_533000.out))) (Kd.R_lt (by (with_reducible repeat (first|apply rA_|apply rN_|apply rD_));exact HO_534000.out))) (below_size (by repeat (first|(with_reducible first|exact HB.out|apply bA_|apply bN_|apply bD_|refine below_set ?_ GE523.out|refine below_set ?_ GE524.out|refine below_set ?_ GE525.out|refine below_set ?_ GE532.out|refine below_set ?_ GE533.out)|exact HB.out))));have n3_:=Aside0.mk (blk_below (g:=gb523) (o:=.cells #[.bool false,.slice A0_1 l0_1.length c0_1] 38 (0,0)) (by (with_reducible repeat (first|refine blk_drewN ?_ _|refine blk_drew ?_|refine blk_alloc ?_ _));exact BK523.out) hb);have n4_:=Aside0.mk (blk_below (g:=gb524) (o:=.cells #[.bool true,.slice A1_1 l1_1.length c1_1] 38 (0,0)) (by (with_reducible repeat (first|refine blk_drewN ?_ _|refine blk_drew ?_|refine blk_alloc ?_ _));exact BK524.out) hb);have n5_:=Aside0.mk (blk_below (g:=gb525) (o:=.cells #[.bool false,.slice none 0 0] 38 (0,0)) (by (with_reducible repeat (first|refine blk_drewN ?_ _|refine blk_drew ?_|refine blk_alloc ?_ _));exact BK525.out) hb);have n6_:=Aside0.mk (blk_below (g:=gb532) (o:=.cells #[.slice Ao15 t526.length co15] 87 (0,0)) (by (with_reducible repeat (first|refine blk_drewN ?_ _|refine blk_drew ?_|refine blk_alloc ?_ _));exact BK532.out) hb);have n7_:=Aside0.mk (blk_below (g:=gb533) (o:=.cells #[.slice Ao17 t529.length co17] 87 (0,0)) (by (with_reducible repeat (first|refine blk_drewN ?_ _|refine blk_drew ?_|refine blk_alloc ?_ _));exact BK533.out) hb);have n8_:=Aside0.mk (below_step (by repeat (first|(with_reducible first|exact HB.out|apply bA_|apply bN_|apply bD_|refine below_set ?_ GE523.out|refine below_set ?_ GE524.out|refine below_set ?_ GE525.out|refine below_set ?_ GE532.out|refine below_set ?_ GE533.out)|exact HB.out)) hb);clear HO_533000;clear HO_534000;clear BK523;clear BK524;clear BK525;clear BK532;clear BK533;clear HB;have HO_533000:=n0_;have HO_534000:=n1_;have HO542:=n2_;have BK523:=n3_;have BK524:=n4_;have BK525:=n5_;have BK532:=n6_;have BK533:=n7_;have HB:=n8_;clear n0_ n1_ n2_ n3_ n4_ n5_ n6_ n7_ n8_;(try clear hb);(try clear hb2);(try clear hk);(try clear hi);(try clear ho0);obtain ⟨Ao85,co85,eo85⟩:=Kd.R_slice HO542.out;subst eo85;have hcz86_0:w84.cell? ⟨gb525,0,none⟩=some (.bool false):=(blk_cell BK525.out 0).trans rfl;have hcz86_1:w84.cell? ⟨gb525,1,none⟩=some (.slice none 0 0):=(blk_cell BK525.out 1).trans rfl;have hfz86_0:=blk_frozen BK525.out 0;have hfz86_1:=blk_frozen BK525.out 1))
      refine bodyPost_ret (results_cell_row rfl _ _ gb525 38 #[.bool false,.slice Ao85 t540.length co85] (0,0) _ rfl (by (with_reducible repeat (first|refine blk_drewN ?_ _|refine blk_drew ?_|refine blk_alloc ?_ _));refine blk_put (cs:=#[.bool false,.slice none 0 0]) ?_ 1 _ rfl;(with_reducible repeat (first|refine blk_drewN ?_ _|refine blk_drew ?_|refine blk_alloc ?_ _));refine blk_put (cs:=#[.bool false,.slice none 0 0]) ?_ 0 _ rfl;(with_reducible repeat (first|refine blk_drewN ?_ _|refine blk_drew ?_|refine blk_alloc ?_ _));exact BK525.out) Try.underlying38 rfl (by kernel_rfl)) rfl ?_
      exact ⟨_,by first|rfl|(simp [errW_none,errW_some] <;> rfl)|(simp [*,errW_none,errW_some] <;> rfl),by (with_reducible repeat (first|apply rA_|apply rN_|apply rD_));exact Kd.R_mono (Kd.R_far (p:=⟨gb525,1,none⟩) (Kd.R_far (p:=⟨gb525,0,none⟩) (Kd.R_types HO542.out BK525.out (by decide)) (fun _ hk=>hk.2) (.bool false)) (fun _ hk=>hk.2) (.slice Ao85 t540.length co85)) (fun _ hk=>trivial),by repeat (first|(with_reducible first|exact HB.out|apply bA_|apply bN_|apply bD_|refine below_set ?_ GE523.out|refine below_set ?_ GE524.out|refine below_set ?_ GE525.out|refine below_set ?_ GE532.out|refine below_set ?_ GE533.out)|exact HB.out)⟩
     ·replace c68:=Bool.eq_false_iff.mpr c68
      subst c68
      have H1:((names_set_string_only.f kj4 t526 t529 true).bind fun t543=>(some (false,t543)))=some (r1,r2):=by rw [if_neg (show ¬ (false=true) by decide)] at H;exact H
      clear H
      have H:=H1
      clear H1
      replace H:=Option.bind_eq_some_iff.mp H
      obtain ⟨t543,A870,H⟩:=H
      replace H:(some (false,t543))=some (r1,r2):=H
      have A87:=Aside0.mk A870
      clear A870
      simp only [Option.some.injEq,Prod.mk.injEq] at H
      obtain ⟨rfl,rfl⟩:=H
      have hnb88:=NB523_524.out
      have hnc88:=NB524_523.out
      have hnb89:=NB523_525.out
      have hnc89:=NB525_523.out
      have hnb90:=NB523_532.out
      have hnc90:=NB532_523.out
      have hnb91:=NB523_533.out
      have hnc91:=NB533_523.out
      have hcz92_0:wc.cell? ⟨gb523,0,none⟩=some (.bool false):=(blk_cell BK523.out 0).trans rfl
      have hcz92_1:wc.cell? ⟨gb523,1,none⟩=some (.slice A0_1 l0_1.length c0_1):=(blk_cell BK523.out 1).trans rfl
      have hfz92_0:=blk_frozen BK523.out 0
      have hfz92_1:=blk_frozen BK523.out 1
      have hnb93:=NB524_525.out
      have hnc93:=NB525_524.out
      have hnb94:=NB524_532.out
      have hnc94:=NB532_524.out
      have hnb95:=NB524_533.out
      have hnc95:=NB533_524.out
      have hcz96_0:wc.cell? ⟨gb524,0,none⟩=some (.bool false):=(blk_cell BK524.out 0).trans rfl
      have hcz96_1:wc.cell? ⟨gb524,1,none⟩=some (.slice A1_1 l1_1.length c1_1):=(blk_cell BK524.out 1).trans rfl
      have hfz96_0:=blk_frozen BK524.out 0
      have hfz96_1:=blk_frozen BK524.out 1
      have hnb97:=NB532_525.out
      have hnc97:=NB525_532.out
      have hnb98:=NB532_533.out
      have hnc98:=NB533_532.out
      have hcz99_0:wc.cell? ⟨gb532,0,none⟩=some (.slice Ao15 t526.length co15):=(blk_cell BK532.out 0).trans rfl
      have hfz99_0:=blk_frozen BK532.out 0
      have hnb100:=NB533_525.out
      have hnc100:=NB525_533.out
      have hcz101_0:wc.cell? ⟨gb533,0,none⟩=some (.slice Ao17 t529.length co17):=(blk_cell BK533.out 0).trans rfl
      have hfz101_0:=blk_frozen BK533.out 0
      go_wp2_with (first|((with_reducible refine gate_callee (f:=63) rfl ?_);refine goesL_ (some 43) rfl rfl Try.func63 (by kernel_rfl) rfl #[.agg #[.slice Ao15 t526.length co15],.agg #[.slice Ao17 t529.length co17],.bool true] rfl (by (try simp only [List.map_toArray,List.map_cons,List.map_nil]);first|done|rfl|(simp only [List.length_drop,List.length_take];rfl)) ?_;(with_reducible refine (names_set_string_only.calls kj4 _ _ t526 _ _ t529 true t543 _ ?side1 ?side2 ?side3 ?side4 A87.out).mono ?_);(case side1=>repeat (first|exact (Kd.R_reads' HO_533000.out).2.2|(with_reducible refine cA_ ?_ _)|(with_reducible refine cN_ ?_ _)|(with_reducible refine cD_ ?_)));(case side2=>exact (Kd.R_reads' HO_533000.out).2.1);(case side3=>repeat (first|exact (Kd.R_reads' HO_534000.out).2.2|(with_reducible refine cA_ ?_ _)|(with_reducible refine cN_ ?_ _)|(with_reducible refine cD_ ?_)));(case side4=>exact (Kd.R_reads' HO_534000.out).2.1);rintro e w102 ⟨v544,rfl,ho0,hb⟩;refine ⟨_,rfl,?_⟩;have n0_:=Aside0.mk (Kd.R_elder' (by (with_reducible repeat (first|apply rA_|apply rN_|apply rD_));exact HO_533000.out) (Kd.R_base ho0) hb);have n1_:=Aside0.mk (Kd.R_elder' (by (with_reducible repeat (first|apply rA_|apply rN_|apply rD_));exact HO_534000.out) (Kd.R_base ho0) hb);have n2_:=Aside0.mk (Kd.R_lower (Kd.R_new' (Kd.R_new' ho0 (Kd.R_lt (by (with_reducible repeat (first|apply rA_|apply rN_|apply rD_));exact HO_533000.out))) (Kd.R_lt (by (with_reducible repeat (first|apply rA_|apply rN_|apply rD_));exact HO_534000.out))) (below_size (by repeat (first|(with_reducible first|exact HB.out|apply bA_|apply bN_|apply bD_|refine below_set ?_ GE523.out|refine below_set ?_ GE524.out|refine below_set ?_ GE525.out|refine below_set ?_ GE532.out|refine below_set ?_ GE533.out)|exact HB.out))));have n3_:=Aside0.mk (blk_below (g:=gb523) (o:=.cells #[.bool false,.slice A0_1 l0_1.length c0_1] 38 (0,0)) (by (with_reducible repeat (first|refine blk_drewN ?_ _|refine blk_drew ?_|refine blk_alloc ?_ _));exact BK523.out) hb);have n4_:=Aside0.mk (blk_below (g:=gb524) (o:=.cells #[.bool false,.slice A1_1 l1_1.length c1_1] 38 (0,0)) (by (with_reducible repeat (first|refine blk_drewN ?_ _|refine blk_drew ?_|refine blk_alloc ?_ _));exact BK524.out) hb);have n5_:=Aside0.mk (blk_below (g:=gb525) (o:=.cells #[.bool false,.slice none 0 0] 38 (0,0)) (by (with_reducible repeat (first|refine blk_drewN ?_ _|refine blk_drew ?_|refine blk_alloc ?_ _));exact BK525.out) hb);have n6_:=Aside0.mk (blk_below (g:=gb532) (o:=.cells #[.slice Ao15 t526.length co15] 87 (0,0)) (by (with_reducible repeat (first|refine blk_drewN ?_ _|refine blk_drew ?_|refine blk_alloc ?_ _));exact BK532.out) hb);have n7_:=Aside0.mk (blk_below (g:=gb533) (o:=.cells #[.slice Ao17 t529.length co17] 87 (0,0)) (by (with_reducible repeat (first|refine blk_drewN ?_ _|refine blk_drew ?_|refine blk_alloc ?_ _));exact BK533.out) hb);have n8_:=Aside0.mk (below_step (by repeat (first|(with_reducible first|exact HB.out|apply bA_|apply bN_|apply bD_|refine below_set ?_ GE523.out|refine below_set ?_ GE524.out|refine below_set ?_ GE525.out|refine below_set ?_ GE532.out|refine below_set ?_ GE533.out)|exact HB.out)) hb);clear HO_533000;clear HO_534000;clear BK523;clear BK524;clear BK525;clear BK532;clear BK533;clear HB;have HO_533000:=n0_;have HO_534000:=n1_;have HO545:=n2_;have BK523:=n3_;have BK524:=n4_;have BK525:=n5_;have BK532:=n6_;have BK533:=n7_;have HB:=n8_;clear n0_ n1_ n2_ n3_ n4_ n5_ n6_ n7_ n8_;(try clear hb);(try clear hb2);(try clear hk);(try clear hi);(try clear ho0);obtain ⟨Ao103,co103,eo103⟩:=Kd.R_slice HO545.out;subst eo103;have hcz104_0:w102.cell? ⟨gb525,0,none⟩=some (.bool false):=(blk_cell BK525.out 0).trans rfl;have hcz104_1:w102.cell? ⟨gb525,1,none⟩=some (.slice none 0 0):=(blk_cell BK525.out 1).trans rfl;have hfz104_0:=blk_frozen BK525.out 0;have hfz104_1:=blk_frozen BK525.out 1))
      refine bodyPost_ret (results_cell_row rfl _ _ gb525 38 #[.bool false,.slice Ao103 t543.length co103] (0,0) _ rfl (by (with_reducible repeat (first|refine blk_drewN ?_ _|refine blk_drew ?_|refine blk_alloc ?_ _));refine blk_put (cs:=#[.bool false,.slice none 0 0]) ?_ 1 _ rfl;(with_reducible repeat (first|refine blk_drewN ?_ _|refine blk_drew ?_|refine blk_alloc ?_ _));refine blk_put (cs:=#[.bool false,.slice none 0 0]) ?_ 0 _ rfl;(with_reducible repeat (first|refine blk_drewN ?_ _|refine blk_drew ?_|refine blk_alloc ?_ _));exact BK525.out) Try.underlying38 rfl (by kernel_rfl)) rfl ?_
      exact ⟨_,by first|rfl|(simp [errW_none,errW_some] <;> rfl)|(simp [*,errW_none,errW_some] <;> rfl),by (with_reducible repeat (first|apply rA_|apply rN_|apply rD_));exact Kd.R_mono (Kd.R_far (p:=⟨gb525,1,none⟩) (Kd.R_far (p:=⟨gb525,0,none⟩) (Kd.R_types HO545.out BK525.out (by decide)) (fun _ hk=>hk.2) (.bool false)) (fun _ hk=>hk.2) (.slice Ao103 t543.length co103)) (fun _ hk=>trivial),by repeat (first|(with_reducible first|exact HB.out|apply bA_|apply bN_|apply bD_|refine below_set ?_ GE523.out|refine below_set ?_ GE524.out|refine below_set ?_ GE525.out|refine below_set ?_ GE532.out|refine below_set ?_ GE533.out)|exact HB.out)⟩
end Go.Proofs.Ytoihiehoolehiaa.PX
namespace Go.Proofs.Ytoihiehoolehiaa.PX
open Go.RowKit Go.Proofs.YtoihiehoolehiaaW.PrintWords Go.Proofs.YtoihiehoolehiaaW.PrintLast Go.Proofs.YtoihiehoolehiaaW.PrintMore
attribute [local go_sem] max2_int min2_int max_two min_two max_three min_three max_four min_four   
set_option linter.unusedVariables false
set_option linter.unusedSimpArgs false
attribute [local go_sem] run_field_87_0
def names_None.f (a0_0:Bool) (l0_1:List ByteArray):Option (Bool):=if a0_0=true then (some false) else (some ((l0_1.length:Int) == 0))
set_option maxHeartbeats 8000000 in
set_option maxRecDepth 100000 in
theorem names_None.calls (a0_0:Bool) (A0_1:Option Addr) (c0_1:Nat) (l0_1:List ByteArray) (r:Bool) (w:World) (hr0_1:Kd.C Kd.string w A0_1 l0_1.length l0_1) (hc0_1:l0_1.length≤c0_1) (h:names_None.f a0_0 l0_1=some r) :
  Calls Try.prog 48 #[.agg #[.bool a0_0,.slice A0_1 l0_1.length c0_1]] w fun e w'=>e=.returned (.bool r)∧Below w.heap.size w w':=by
 have hu38:=Try.underlying38
 have HR0_1:=Aside0.mk hr0_1
 have HC0_1:=Aside0.mk hc0_1
 clear hr0_1 hc0_1
 have HB:=Aside0.mk (Below.refl w.heap.size w)
 have H:(if a0_0=true then (some false) else (some ((l0_1.length:Int) == 0)))=some r:=h
 clear h
 by_cases c2:a0_0=true
 ·subst c2
  have H1:(some false)=some r:=by rw [if_pos rfl] at H;exact H
  clear H
  have H:=H1
  clear H1
  obtain rfl:=Option.some.inj H
  go_enter Try.func48,Try.ntmps48
  go_wp2_with (first|((with_reducible refine gate_dst (N:=1) rfl ?_);(try (refine gate_guard (by rfl) ?_;dsimp only));refine box_event ?hg (N:=1) ?hd (cs:=#[.bool true,.slice A0_1 l0_1.length c0_1]) (t:=38) ?hr ?_;(case hd=>rfl);(case hg=>rfl);(case hr=>first|(go_simp;done)|(go_simp;rfl));intro gb546 hg w3 hbox hb;have n0_:=Aside0.mk (below_step (by repeat (first|(with_reducible first|exact HB.out|apply bA_|apply bN_|apply bD_)|exact HB.out)) hb);have n1_:=Aside0.mk (hbox);have n2_:=Aside0.mk ((by rw [hg];exact (below_size (by repeat (first|(with_reducible first|exact HB.out|apply bA_|apply bN_|apply bD_)|exact HB.out))):w.heap.size≤gb546));have n3_:=Aside0.mk ((by rw [hg];exact (below_size (by repeat (first|(with_reducible first|exact HB.out|apply bA_|apply bN_|apply bD_)|exact HB.out))):w.heap.size≤gb546));clear HB;have HB:=n0_;have BK546:=n1_;have GW546:=n2_;have GE546:=n3_;clear n0_ n1_ n2_ n3_;clear hb hbox hg;have hcz4_0:w3.cell? ⟨gb546,0,none⟩=some (.bool true):=(blk_cell BK546.out 0).trans rfl;have hcz4_1:w3.cell? ⟨gb546,1,none⟩=some (.slice A0_1 l0_1.length c0_1):=(blk_cell BK546.out 1).trans rfl;have hfz4_0:=blk_frozen BK546.out 0;have hfz4_1:=blk_frozen BK546.out 1))
  go_ret
  exact ⟨by first|rfl|(simp [errW_none,errW_some] <;> rfl)|(simp [*,errW_none,errW_some] <;> rfl),by repeat (first|(with_reducible first|exact HB.out|apply bA_|apply bN_|apply bD_|refine below_set ?_ GE546.out)|exact HB.out)⟩
 ·replace c2:=Bool.eq_false_iff.mpr c2
  subst c2
  have H1:(some ((l0_1.length:Int) == 0))=some r:=by rw [if_neg (show ¬ (false=true) by decide)] at H;exact H
  clear H
  have H:=H1
  clear H1
  obtain rfl:=Option.some.inj H
  go_enter Try.func48,Try.ntmps48
  go_wp2_with (first|((with_reducible refine gate_dst (N:=1) rfl ?_);(try (refine gate_guard (by rfl) ?_;dsimp only));refine box_event ?hg (N:=1) ?hd (cs:=#[.bool false,.slice A0_1 l0_1.length c0_1]) (t:=38) ?hr ?_;(case hd=>rfl);(case hg=>rfl);(case hr=>first|(go_simp;done)|(go_simp;rfl));intro gb546 hg w5 hbox hb;have n0_:=Aside0.mk (below_step (by repeat (first|(with_reducible first|exact HB.out|apply bA_|apply bN_|apply bD_)|exact HB.out)) hb);have n1_:=Aside0.mk (hbox);have n2_:=Aside0.mk ((by rw [hg];exact (below_size (by repeat (first|(with_reducible first|exact HB.out|apply bA_|apply bN_|apply bD_)|exact HB.out))):w.heap.size≤gb546));have n3_:=Aside0.mk ((by rw [hg];exact (below_size (by repeat (first|(with_reducible first|exact HB.out|apply bA_|apply bN_|apply bD_)|exact HB.out))):w.heap.size≤gb546));clear HB;have HB:=n0_;have BK546:=n1_;have GW546:=n2_;have GE546:=n3_;clear n0_ n1_ n2_ n3_;clear hb hbox hg;have hcz6_0:w5.cell? ⟨gb546,0,none⟩=some (.bool false):=(blk_cell BK546.out 0).trans rfl;have hcz6_1:w5.cell? ⟨gb546,1,none⟩=some (.slice A0_1 l0_1.length c0_1):=(blk_cell BK546.out 1).trans rfl;have hfz6_0:=blk_frozen BK546.out 0;have hfz6_1:=blk_frozen BK546.out 1))
  go_ret
  exact ⟨by first|rfl|(simp [errW_none,errW_some] <;> rfl)|(simp [*,errW_none,errW_some] <;> rfl),by repeat (first|(with_reducible first|exact HB.out|apply bA_|apply bN_|apply bD_|refine below_set ?_ GE546.out)|exact HB.out)⟩
end Go.Proofs.Ytoihiehoolehiaa.PX
set_option linter.unusedVariables false
set_option linter.unusedSimpArgs false
namespace Go.Proofs.Ytoihiehoolehiaa.PX
open Go.RowKit Go.Proofs.YtoihiehoolehiaaW.PrintWords Go.Proofs.YtoihiehoolehiaaW.PrintLast Go.Proofs.YtoihiehoolehiaaW.PrintMore Go.Proofs.Ytoihiehoolehiaa
def setB (l:List ByteArray):List ByteArray:=(ofL (l.map tl)).map ba
theorem setB_mem {l:List ByteArray} {x:ByteArray} : x ∈ setB l ↔ x ∈ l:=by
 unfold setB
 rw [List.mem_map]
 constructor
 ·rintro ⟨s,hs,rfl⟩
  obtain ⟨y,hy,rfl⟩:=List.mem_map.1 (ofL_mem.1 hs)
  rwa [ba_tl]
 ·intro h
  exact ⟨tl x,ofL_mem.2 (List.mem_map_of_mem h),ba_tl x⟩
theorem setB_sorted (l:List ByteArray):(setB l).Pairwise fun x y=>tl x < tl y:=by
 unfold setB
 rw [List.pairwise_map]
 exact (ofL_sorted _).imp fun {a b} h=>by rw [tl_ba,tl_ba];exact h
theorem setB_length (l:List ByteArray):(setB l).length≤l.length:=by
 unfold setB
 rw [List.length_map]
 exact Nat.le_trans (ofL_length_le _) (by simp)
theorem setB_has (l:List ByteArray) (x:ByteArray):hasL (setB l) x=hasL l x:=by
 rw [Bool.eq_iff_iff,hasL_iff,hasL_iff,setB_mem]
theorem of_eq (l:List ByteArray) (hl:l.length≤1000000000000):names_of_string.f l=some (setB l):=by
 have hc:∀ x:List ByteArray,x.length≤1000000000000→slices_Clone_string_string.f x=some x:=fun x hx=>by
  unfold slices_Clone_string_string.f
  simp only [Option.bind_some,List.length_nil,List.nil_append]
  rw [if_pos (by omega)]
 have h1:(sortB l).length≤1000000000000:=by rw [sortB_length];exact hl
 have e:compactB (sortB l)=setB l:=by
  unfold compactB sortB setB ofL
  rw [map_tl_ba]
 have h2:(compactB (sortB l)).length≤1000000000000:=by rw [e];exact Nat.le_trans (setB_length l) hl
 unfold names_of_string.f
 rw [hc l hl]
 simp only [Option.bind_some,slices_Sort_string_string.f,slices_Compact_string_string.f]
 rw [if_pos hl]
 simp only [Option.bind_some]
 rw [if_pos h1]
 simp only [Option.bind_some]
 rw [hc _ h2,e]
 rfl
theorem wrap_mid {a b:Nat} (h:a+b < 4000000000000):wrap64 ((IntKind.u64.wrap (wrap64 ((a:Int)+(b:Int)))) / 2)=(((a+b) / 2:Nat):Int):=by
 rw [show wrap64 ((a:Int)+(b:Int))=((a+b:Nat):Int) by unfold wrap64;omega]
 rw [IntKind.wrap_u64,show ((a+b:Nat):Int) % 18446744073709551616=((a+b:Nat):Int) by omega]
 unfold wrap64
 omega
theorem bs_ev (l:List ByteArray) (a:ByteArray) (hs:l.Pairwise fun x y=>tl x < tl y) (hl:l.length≤1000000000000):∀ (d lo hi:Nat),hi - lo≤d→lo≤hi→hi≤l.length→(∀ j (h:j < l.length),j < lo→tl l[j] < tl a)→(∀ j (h:j < l.length),hi≤j→¬ tl l[j] < tl a)→∃ p:Int,Ev (fun k=>slices_BinarySearch_string_string.l0 k l a (l.length:Int) (lo:Int) (hi:Int)) (p,hasL l a)
 | d,lo,hi,hd,h1,h2,h3,h4=>by
  by_cases hlt:lo < hi
  ·have hm:(lo+hi) / 2 < l.length:=by omega
   have hf:∀ s:ByteArray,(s.toList != s.toList)=false:=fun s=>by simp
   have e:∀ k,slices_BinarySearch_string_string.l0 (k+1) l a (l.length:Int) (lo:Int) (hi:Int)=if tl l[(lo+hi) / 2] < tl a then slices_BinarySearch_string_string.l0 k l a (l.length:Int) (((lo+hi) / 2+1:Nat):Int) (hi:Int) else slices_BinarySearch_string_string.l0 k l a (l.length:Int) (lo:Int) (((lo+hi) / 2:Nat):Int):=by
    intro k
    simp only [slices_BinarySearch_string_string.l0]
    rw [if_pos (by omega),wrap_mid (by omega),if_pos (by omega),if_pos (by omega),rdOf_nat hm,wrap_succ (by omega)]
    simp only [cmp_Less_string.f,cmp_isNaN_string.f,hf,Option.bind_some]
    rw [if_neg (by simp)]
    simp only [Option.bind_some,less_iff]
   by_cases hc:tl l[(lo+hi) / 2] < tl a
   ·obtain ⟨p,hp⟩:=bs_ev l a hs hl (d - 1) ((lo+hi) / 2+1) hi (by omega) (by omega) h2 (fun j hj hj'=>by
     rcases Nat.lt_or_ge j ((lo+hi) / 2) with h|h
     ·exact List.lt_trans ((List.pairwise_iff_getElem.1 hs) _ _ hj hm h) hc
     ·have:j=(lo+hi) / 2:=by omega
      subst this
      exact hc) h4
    exact ⟨p,Ev.step (fun k=>(e k).trans (if_pos hc)) hp⟩
   ·obtain ⟨p,hp⟩:=bs_ev l a hs hl (d - 1) lo ((lo+hi) / 2) (by omega) (by omega) (by omega) h3 (fun j hj hj' hj2=>by
     rcases Nat.lt_or_ge ((lo+hi) / 2) j with h|h
     ·exact hc (List.lt_trans ((List.pairwise_iff_getElem.1 hs) _ _ hm hj h) hj2)
     ·have:j=(lo+hi) / 2:=by omega
      subst this
      exact hc hj2)
    exact ⟨p,Ev.step (fun k=>(e k).trans (if_neg hc)) hp⟩
  ·obtain rfl:lo=hi:=by omega
   refine ⟨(lo:Int),Ev.step (f:=fun _=>some ((lo:Int),hasL l a)) (fun k=>?_) (Ev.now _)⟩
   have hf:∀ s:ByteArray,(s.toList != s.toList)=false:=fun s=>by simp
   simp only [slices_BinarySearch_string_string.l0]
   rw [if_neg (by omega)]
   by_cases hll:lo < l.length
   ·rw [if_pos (by omega),if_pos (by omega),if_pos (by omega),rdOf_nat hll]
    by_cases ha:l[lo]=a
    ·rw [if_pos (by rw [ha]),(hasL_iff l a).2 (ha ▸ List.getElem_mem hll)]
    ·rw [if_neg (fun x=>ha (tl_inj (by rwa [toList_tl,toList_tl] at x)))]
     simp only [slices_isNaN_string.f,hf,Option.bind_some]
     rw [if_neg (by simp),show hasL l a=false from ?_]
     refine Bool.eq_false_iff.2 fun h=>?_
     obtain ⟨j,hj,rfl⟩:=List.mem_iff_getElem.1 ((hasL_iff l a).1 h)
     rcases Nat.lt_trichotomy j lo with h|h|h
     ·exact List.lt_irrefl _ (h3 j hj h)
     ·subst h;exact ha rfl
     ·exact h4 lo hll (Nat.le_refl _) ((List.pairwise_iff_getElem.1 hs) _ _ hll hj h)
   ·rw [if_neg (by omega),show hasL l a=false from ?_]
    refine Bool.eq_false_iff.2 fun h=>?_
    obtain ⟨j,hj,rfl⟩:=List.mem_iff_getElem.1 ((hasL_iff l a).1 h)
    exact List.lt_irrefl _ (h3 j hj (by omega))
termination_by d lo hi=>hi - lo
theorem only_ev (b:Bool) (x y:List ByteArray) (hy:y.Pairwise fun x y=>tl x < tl y) (hl:x.length≤1000000000) (hly:y.length≤1000000000):Ev (fun k=>names_set_string_only.f k x y b) (setB (x.filter fun z=>hasL y z == b)):=by
 have loop:∀ (d i:Nat) (out:List ByteArray),x.length - i≤d→i≤x.length→out.length≤i→Ev (fun k=>names_set_string_only.l0 k b out x (x.length:Int) (i:Int) y) (setB (out ++ (x.drop i).filter fun z=>hasL y z == b)):=by
  intro d
  induction d with
  | zero =>
   intro i out hd hi ho
   obtain rfl:i=x.length:=by omega
   refine Ev.step (f:=fun _=>some (setB (out ++ (x.drop x.length).filter fun z=>hasL y z == b))) (fun k=>?_) (Ev.now _)
   simp only [names_set_string_only.l0]
   rw [if_neg (by omega),of_eq _ (by omega),List.drop_length]
   simp
  | succ d ih =>
   intro i out hd hi ho
   by_cases h:i < x.length
   ·obtain ⟨p,K,hp⟩:=bs_ev y x[i] hy (by omega) _ 0 y.length (Nat.le_refl _) (Nat.zero_le _) (Nat.le_refl _) (fun j _ hj=>absurd hj (Nat.not_lt_zero _)) (fun j h hj=>absurd h (by omega))
    have hdrop:x.drop i=x[i] :: x.drop (i+1):=List.drop_eq_getElem_cons h
    have e:∀ k,K≤k→names_set_string_only.l0 (k+1) b out x (x.length:Int) (i:Int) y=names_set_string_only.l0 k b (if (hasL y x[i] == b)=true then out ++ [x[i]] else out) x (x.length:Int) ((i+1:Nat):Int) y:=by
     intro k hk
     have hp:slices_BinarySearch_string_string.l0 k y x[i] (y.length:Int) 0 (y.length:Int)=some (p,hasL y x[i]):=hp k hk
     simp only [names_set_string_only.l0]
     rw [if_pos (by omega),if_pos (by omega),if_pos (by omega),rdOf_nat h,wrap_succ (by omega),slices_BinarySearch_string_string.f,hp]
     simp only [Option.bind_some]
     by_cases hq:(hasL y x[i] == b)=true
     ·rw [if_pos hq,if_pos (by omega),if_pos hq]
     ·rw [if_neg hq,if_neg hq]
    have hst:=ih (i+1) (if (hasL y x[i] == b)=true then out ++ [x[i]] else out) (by omega) (by omega) (by split <;> (try rw [List.length_append,List.length_singleton]) <;> omega)
    have e2:(if (hasL y x[i] == b)=true then out ++ [x[i]] else out) ++ (x.drop (i+1)).filter (fun z=>hasL y z == b)=out ++ (x.drop i).filter fun z=>hasL y z == b:=by
     rw [hdrop,List.filter_cons]
     split <;> simp
    rw [e2] at hst
    obtain ⟨K2,hs⟩:=hst
    refine ⟨max K K2+1,fun k hk=>?_⟩
    obtain ⟨k,rfl⟩:∃ k',k=k'+1:=⟨k - 1,by omega⟩
    exact (e k (by omega)).trans (hs k (by omega))
   ·obtain rfl:i=x.length:=by omega
    refine Ev.step (f:=fun _=>some (setB (out ++ (x.drop x.length).filter fun z=>hasL y z == b))) (fun k=>?_) (Ev.now _)
    simp only [names_set_string_only.l0]
    rw [if_neg (by omega),of_eq _ (by omega),List.drop_length]
    simp
 have:=loop x.length 0 [] (by omega) (Nat.zero_le _) (Nat.le_refl _)
 exact this
theorem with_eq (x y:List ByteArray) (hl:x.length≤1000000000) (hly:y.length≤1000000000):names_set_string_with.f x y=some (setB (x ++ y)):=by
 unfold names_set_string_with.f slices_Clone_string_string.f
 simp only [Option.bind_some,List.length_nil,List.nil_append]
 rw [if_pos (by omega)]
 simp only [Option.bind_some]
 rw [if_pos (by omega),of_eq _ (by simp;omega)]
 rfl
def bothM (a b:S38):S38 :=
 if a.f0=true then
  if b.f0=true then ⟨true,setB (setB a.f1 ++ setB b.f1)⟩ else ⟨false,setB ((setB b.f1).filter fun z=>hasL a.f1 z == false)⟩
 else if b.f0=true then ⟨false,setB ((setB a.f1).filter fun z=>hasL b.f1 z == false)⟩ else ⟨false,setB ((setB a.f1).filter fun z=>hasL b.f1 z == true)⟩
theorem both_ev (a b:S38) (ha:a.f1.length≤1000000000) (hb:b.f1.length≤1000000000):Ev (fun k=>names_Both.f k a.f0 a.f1 b.f0 b.f1) ((bothM a b).f0,(bothM a b).f1):=by
 have la:=setB_length a.f1
 have lb:=setB_length b.f1
 obtain ⟨K1,h1⟩:=only_ev false (setB b.f1) (setB a.f1) (setB_sorted _) (by omega) (by omega)
 obtain ⟨K2,h2⟩:=only_ev false (setB a.f1) (setB b.f1) (setB_sorted _) (by omega) (by omega)
 obtain ⟨K3,h3⟩:=only_ev true (setB a.f1) (setB b.f1) (setB_sorted _) (by omega) (by omega)
 refine ⟨K1+K2+K3+1,fun k hk=>?_⟩
 obtain ⟨k,rfl⟩:∃ k',k=k'+1:=⟨k - 1,by omega⟩
 have h1:names_set_string_only.f k (setB b.f1) (setB a.f1) false=_:=h1 k (by omega)
 have h2:names_set_string_only.f k (setB a.f1) (setB b.f1) false=_:=h2 k (by omega)
 have h3:names_set_string_only.f k (setB a.f1) (setB b.f1) true=_:=h3 k (by omega)
 simp only [setB_has] at h1 h2 h3
 show names_Both.f (k+1) a.f0 a.f1 b.f0 b.f1=_
 unfold names_Both.f
 rw [of_eq _ (by omega),of_eq _ (by omega)]
 simp only [Option.bind_some,names_Both.j0]
 rw [h1,h2,h3,with_eq _ _ (by omega) (by omega)]
 unfold bothM
 cases a.f0 <;> cases b.f0 <;> simp
def noneM (a:S38):Bool:=!a.f0 && a.f1.isEmpty
theorem none_eq (a:S38):names_None.f a.f0 a.f1=some (noneM a):=by
 unfold names_None.f noneM
 cases a.f0 with
 | true=>rfl
 | false=>cases a.f1 <;> simp <;> omega
def apartN (a b:S38):Bool:=noneM (bothM a b)
end Go.Proofs.Ytoihiehoolehiaa.PX
set_option linter.unusedVariables false
set_option linter.unusedSimpArgs false
namespace Go.Proofs.Ytoihiehoolehiaa.PX
open Go.RowKit Go.Proofs.YtoihiehoolehiaaW.PrintWords Go.Proofs.YtoihiehoolehiaaW.PrintLast Go.Proofs.YtoihiehoolehiaaW.PrintMore Go.Proofs.Ytoihiehoolehiaa Go.Shelf
def fieldM (n:Nat) (ahead:List S40) (f:S40):Int :=
 if 20 < f.f0.f1.length then 4
 else if (f.f0.f1.any fun x=>decide (80 < x.size))=true then 5
 else if f.f1 < 0∨(n:Int)≤f.f1 then 1
 else if (f.f2 && f.f0.f0)=true then 3
 else if (ahead.any fun o=>!apartN o.f0 f.f0)=true then 7 else 0
theorem idx_any {α:Type} (l:List α) (q:α→Bool):decide (0≤idxN (fun i=>(l[i]?).elim false q) l.length)=l.any q:=anyN_list l q
set_option maxHeartbeats 4000000 in
set_option maxRecDepth 100000 in
theorem long_pred (x:ByteArray) (W:World) :
  Calls Try.prog 46 #[.string x] W fun e w'=>e=.returned (.bool (decide (80 < x.size)))∧Below W.heap.size W w':=by
 go_enter Try.func46,Try.ntmps46
 go_wp2
 go_ret
 refine ⟨?_,Below.refl _ _⟩
 rw [← show decide (80 < (x.size:Int))=decide (80 < x.size) by rw [decide_eq_decide];omega]
 rfl
set_option maxHeartbeats 4000000 in
set_option maxRecDepth 100000 in
theorem twice_pred (B:Nat) (o f:S40) (A1 A2:Option Addr) (c1 c2:Nat) (W:World) (hB0:W.cell? ⟨B,0,none⟩=some (.bool f.f0.f0)) (hB1:W.cell? ⟨B,1,none⟩=some (.slice A2 f.f0.f1.length c2)) (hC2:Kd.C Kd.string W A2 f.f0.f1.length f.f0.f1) (hc2:f.f0.f1.length≤c2) (hC:Kd.C Kd.string W A1 o.f0.f1.length o.f0.f1) (hc:o.f0.f1.length≤c1) (hl:o.f0.f1.length≤1000000000) (hl2:f.f0.f1.length≤1000000000) :
  Calls Try.prog 47 #[.agg #[.bool o.f0.f0,.slice A1 o.f0.f1.length c1,.int .i64 o.f1,.bool o.f2],.pointer (some ⟨B,0,none⟩)] W fun e w'=>e=.returned (.bool (!apartN o.f0 f.f0))∧Below W.heap.size W w':=by
 obtain ⟨k,hk⟩:=Ev.both (both_ev o.f0 f.f0 hl hl2)
 change names_Both.f k o.f0.f0 o.f0.f1 f.f0.f0 f.f0.f1=some _ at hk
 have hu:=Try.underlying40
 have hu2:=Try.underlying38
 have q0:=Lib.cell?_alloc_some (.cells #[.bool o.f0.f0,.slice A1 o.f0.f1.length c1,.int .i64 o.f1,.bool o.f2] 40) hB0
 have q1:=Lib.cell?_alloc_some (.cells #[.bool o.f0.f0,.slice A1 o.f0.f1.length c1,.int .i64 o.f1,.bool o.f2] 40) hB1
 have hcall:=names_Both.calls k o.f0.f0 A1 c1 o.f0.f1 f.f0.f0 A2 c2 f.f0.f1 _ _ (W.alloc (.cells #[.bool o.f0.f0,.slice A1 o.f0.f1.length c1,.int .i64 o.f1,.bool o.f2] 40)) (Kd.C_alloc hC _) hc (Kd.C_alloc hC2 _) hc2 hk
 have hn:=none_eq (bothM o.f0 f.f0)
 have HN:Aside0 (∀ (v1_:Value) (w':World),Kd.R Kd.string 9 w' (W.alloc (.cells #[.bool o.f0.f0,.slice A1 o.f0.f1.length c1,.int .i64 o.f1,.bool o.f2] 40)).heap.size (fun _=>True) v1_ (bothM o.f0 f.f0).f1→Calls Try.prog 48 #[.agg #[.bool (bothM o.f0 f.f0).f0,v1_]] w' fun e w''=>e=.returned (.bool (apartN o.f0 f.f0))∧Below w'.heap.size w' w''):=⟨fun v1_ w' hR=>by
  obtain ⟨A,c,rfl⟩:=Kd.R_slice hR
  obtain ⟨_,hcc,hRC⟩:=Kd.R_reads' hR
  exact (names_None.calls _ A c _ _ w' hRC hcc hn).mono fun e w'' h=>⟨h.1,h.2⟩⟩
 generalize apartN o.f0 f.f0=r at HN ⊢
 generalize bothM o.f0 f.f0=q at hcall HN
 clear hk hC hC2 hB0 hB1 hn
 generalize o.f0.f0=y0 at *
 generalize o.f0.f1.length=m at *
 generalize o.f1=y1 at *
 generalize o.f2=y2 at *
 generalize f.f0.f0=z0 at *
 generalize f.f0.f1.length=m2 at *
 go_enter Try.func47,Try.ntmps47
 go_wp2_with (first
  | (go_at_call 49;go_loud (refine hcall.mono ?_;rintro e w' ⟨v1_,rfl,hR,hb'⟩;have hN:=HN.out v1_ w' hR))
  | (go_at_call 48;go_loud (refine hN.mono ?_;rintro e w'' ⟨rfl,hb''⟩)))
 go_ret
 exact ⟨rfl,below_then (below_then (below_alloc (Below.refl _ _) _) (by simp) hb') (Nat.le_trans (by simp) hb'.size) hb''⟩
def FieldOk (f:S40):Prop:=f.f0.f1.length≤1000000000
instance (f:S40):Decidable (FieldOk f):=by unfold FieldOk;exact inferInstance
set_option maxHeartbeats 16000000 in
set_option maxRecDepth 100000 in
theorem field_calls (A0:Option Addr) (c0 n:Nat) (A1:Option Addr) (c1:Nat) (l1:List S40) (f:S40) (A2:Option Addr) (c2:Nat) (w:World) (hr1:Kd.C k40 w A1 l1.length l1) (hc1:l1.length≤c1) (hr2:Kd.C Kd.string w A2 f.f0.f1.length f.f0.f1) (hc2:f.f0.f1.length≤c2) (hl1:l1.length≤1000000000000) (hok:FieldOk f) (hoks:∀ o ∈ l1,FieldOk o) :
  Calls Try.prog 27 #[.slice A0 n c0,.slice A1 l1.length c1,.agg #[.bool f.f0.f0,.slice A2 f.f0.f1.length c2,.int .i64 f.f1,.bool f.f2]] w fun e w'=>e=.returned (.int .i64 (fieldM n l1 f))∧Below w.heap.size w w':=by
 have eg:∀ args w,(callFunc 46 args).run Try.prog w=.ok (.enter 46 args) w:=enters_of Try.func46 (by kernel_rfl) rfl
 have eg2:∀ args w,(callFunc 47 args).run Try.prog w=.ok (.enter 47 args) w:=enters_of Try.func47 (by kernel_rfl) rfl
 unfold FieldOk at hok
 obtain ⟨r1,er1⟩:∃ r1,idxN (fun i=>(f.f0.f1[i]?).elim false fun x=>decide (80 < x.size)) f.f0.f1.length=r1:=⟨_,rfl⟩
 obtain ⟨r2,er2⟩:∃ r2,idxN (fun i=>(l1[i]?).elim false fun o=>!apartN o.f0 f.f0) l1.length=r2:=⟨_,rfl⟩
 have e1:=idx_any f.f0.f1 fun x=>decide (80 < x.size)
 have e2:=idx_any l1 fun o=>!apartN o.f0 f.f0
 rw [er1] at e1
 rw [er2] at e2
 have HS:Aside0 (∀ W,Below w.heap.size w W→W.cell? ⟨w.heap.size,0,none⟩=some (.bool f.f0.f0)→W.cell? ⟨w.heap.size,1,none⟩=some (.slice A2 f.f0.f1.length c2)→W.cell? ⟨w.heap.size,2,none⟩=some (.int .i64 f.f1)→W.cell? ⟨w.heap.size,3,none⟩=some (.bool f.f2)→Calls Try.prog 50 #[.slice A2 f.f0.f1.length c2,.func (.func 46) #[] #[]] W fun e w'=>e=.returned (.int .i64 r1)∧Below W.heap.size W w'∧w'.cell? ⟨w.heap.size,0,none⟩=some (.bool f.f0.f0)∧w'.cell? ⟨w.heap.size,1,none⟩=some (.slice A2 f.f0.f1.length c2)∧w'.cell? ⟨w.heap.size,2,none⟩=some (.int .i64 f.f1)∧w'.cell? ⟨w.heap.size,3,none⟩=some (.bool f.f2)):=⟨fun W hW q0 q1 q2 q3=>by
  have:=firstS 46 #[] eg A2 c2 f.f0.f1 (fun i=>(f.f0.f1[i]?).elim false fun x=>decide (80 < x.size)) W (Kd.C_below hr2 hW) (by omega) (fun i hi W' hW'=>by
   have:=long_pred (f.f0.f1[i]) W'
   rw [List.getElem?_eq_getElem hi]
   exact this)
  rw [er1] at this
  exact this.mono fun e w' h=>⟨h.1,h.2,(h.2.cell (World.block_lt_of_cell? _ _ q0)).trans q0,(h.2.cell (World.block_lt_of_cell? _ _ q1)).trans q1,(h.2.cell (World.block_lt_of_cell? _ _ q2)).trans q2,(h.2.cell (World.block_lt_of_cell? _ _ q3)).trans q3⟩⟩
 have HF:Aside0 (∀ W,Below w.heap.size w W→W.cell? ⟨w.heap.size,0,none⟩=some (.bool f.f0.f0)→W.cell? ⟨w.heap.size,1,none⟩=some (.slice A2 f.f0.f1.length c2)→Calls Try.prog 39 #[.slice A1 l1.length c1,.func (.func 47) #[] #[.pointer (some ⟨w.heap.size,0,none⟩)]] W fun e w'=>e=.returned (.int .i64 r2)∧Below W.heap.size W w'):=⟨fun W hW q0 q1=>by
  have:=firstF 47 #[.pointer (some ⟨w.heap.size,0,none⟩)] eg2 A1 c1 l1 (fun i=>(l1[i]?).elim false fun o=>!apartN o.f0 f.f0) W (Kd.C_below hr1 hW) hl1
   (fun i hi W' B1 c3 hW' hC hc=>by
    have h0:=(hW'.cell (World.block_lt_of_cell? _ _ q0)).trans q0
    have h1:=(hW'.cell (World.block_lt_of_cell? _ _ q1)).trans q1
    have:=twice_pred w.heap.size (l1[i]) f B1 A2 c3 c2 W' h0 h1 (Kd.C_below (Kd.C_below hr2 hW) hW') hc2 (Kd.C_below hC hW') hc (hoks _ (List.getElem_mem hi)) hok
    rw [List.getElem?_eq_getElem hi]
    exact this)
  rw [er2] at this
  exact this⟩
 unfold fieldM
 clear hr1 hr2 hok hoks eg eg2 er1 er2 hl1 hc1 hc2
 generalize (f.f0.f1.any fun x=>decide (80 < x.size))=b1 at e1 ⊢
 generalize (l1.any fun o=>!apartN o.f0 f.f0)=b2 at e2 ⊢
 generalize f.f0.f0=y0 at *
 generalize f.f0.f1.length=m at *
 generalize f.f1=y1 at *
 generalize f.f2=y2 at *
 generalize l1.length=n1 at *
 have hu:=Try.underlying40
 have hu2:=Try.underlying38
 by_cases g1:20 < m
 ·rw [if_pos g1]
  go_enter Try.func27,Try.ntmps27
  go_wp2
  go_ret
  exact ⟨rfl,below_alloc (Below.refl _ _) _⟩
 rw [if_neg g1]
 cases b1 with
 | true =>
  have e1:0≤r1:=of_decide_eq_true e1
  rw [if_pos rfl]
  go_enter Try.func27,Try.ntmps27
  go_wp2_with (go_at_call 50;go_loud (refine (HS.out _ ?s0 ?s1 ?s2 ?s3 ?s4).mono ?_;(case s0=>exact below_alloc (Below.refl _ _) _);(case s1=>exact cell_new _ _ _ _ _ rfl rfl);(case s2=>exact cell_new _ _ _ _ _ rfl rfl);(case s3=>exact cell_new _ _ _ _ _ rfl rfl);(case s4=>exact cell_new _ _ _ _ _ rfl rfl);rintro e w' ⟨rfl,hb',z0,z1,z2,z3⟩))
  go_ret
  exact ⟨rfl,below_then (below_alloc (Below.refl _ _) _) (by simp) hb'⟩
 | false =>
 have e1:¬ 0≤r1:=of_decide_eq_false e1
 rw [if_neg (by simp)]
 by_cases g2:y1 < 0
 ·rw [if_pos (.inl g2)]
  go_enter Try.func27,Try.ntmps27
  go_wp2_with (go_at_call 50;go_loud (refine (HS.out _ ?s0 ?s1 ?s2 ?s3 ?s4).mono ?_;(case s0=>exact below_alloc (Below.refl _ _) _);(case s1=>exact cell_new _ _ _ _ _ rfl rfl);(case s2=>exact cell_new _ _ _ _ _ rfl rfl);(case s3=>exact cell_new _ _ _ _ _ rfl rfl);(case s4=>exact cell_new _ _ _ _ _ rfl rfl);rintro e w' ⟨rfl,hb',z0,z1,z2,z3⟩))
  go_ret
  exact ⟨rfl,below_then (below_alloc (Below.refl _ _) _) (by simp) hb'⟩
 by_cases g3:(n:Int)≤y1
 ·rw [if_pos (.inr g3)]
  go_enter Try.func27,Try.ntmps27
  go_wp2_with (go_at_call 50;go_loud (refine (HS.out _ ?s0 ?s1 ?s2 ?s3 ?s4).mono ?_;(case s0=>exact below_alloc (Below.refl _ _) _);(case s1=>exact cell_new _ _ _ _ _ rfl rfl);(case s2=>exact cell_new _ _ _ _ _ rfl rfl);(case s3=>exact cell_new _ _ _ _ _ rfl rfl);(case s4=>exact cell_new _ _ _ _ _ rfl rfl);rintro e w' ⟨rfl,hb',z0,z1,z2,z3⟩))
  go_ret
  exact ⟨rfl,below_then (below_alloc (Below.refl _ _) _) (by simp) hb'⟩
 rw [if_neg (by omega)]
 cases b2 with
 | true =>
  have e2:0≤r2:=of_decide_eq_true e2
  cases y2 <;> cases y0 <;> (
   go_enter Try.func27,Try.ntmps27
   go_wp2_with (first
    | (go_at_call 50;refine (HS.out _ ?s0 ?s1 ?s2 ?s3 ?s4).mono ?_;(case s0=>exact below_alloc (Below.refl _ _) _);(case s1=>exact cell_new _ _ _ _ _ rfl rfl);(case s2=>exact cell_new _ _ _ _ _ rfl rfl);(case s3=>exact cell_new _ _ _ _ _ rfl rfl);(case s4=>exact cell_new _ _ _ _ _ rfl rfl);rintro e w' ⟨rfl,hb',z0,z1,z2,z3⟩)
    | (go_at_call 39;refine (HF.out _ (below_then (below_alloc (Below.refl _ _) _) (by simp) hb') z0 z1).mono ?_;rintro e w'' ⟨rfl,hb''⟩))
   go_ret
   first
    | exact ⟨rfl,below_then (below_alloc (Below.refl _ _) _) (by simp) hb'⟩
    | exact ⟨rfl,below_then (below_then (below_alloc (Below.refl _ _) _) (by simp) hb') (Nat.le_trans (by simp) hb'.size) hb''⟩)
 | false =>
  have e2:¬ 0≤r2:=of_decide_eq_false e2
  cases y2 <;> cases y0 <;> (
   go_enter Try.func27,Try.ntmps27
   go_wp2_with (first
    | (go_at_call 50;refine (HS.out _ ?s0 ?s1 ?s2 ?s3 ?s4).mono ?_;(case s0=>exact below_alloc (Below.refl _ _) _);(case s1=>exact cell_new _ _ _ _ _ rfl rfl);(case s2=>exact cell_new _ _ _ _ _ rfl rfl);(case s3=>exact cell_new _ _ _ _ _ rfl rfl);(case s4=>exact cell_new _ _ _ _ _ rfl rfl);rintro e w' ⟨rfl,hb',z0,z1,z2,z3⟩)
    | (go_at_call 39;refine (HF.out _ (below_then (below_alloc (Below.refl _ _) _) (by simp) hb') z0 z1).mono ?_;rintro e w'' ⟨rfl,hb''⟩))
   go_ret
   first
    | exact ⟨rfl,below_then (below_alloc (Below.refl _ _) _) (by simp) hb'⟩
    | exact ⟨rfl,below_then (below_then (below_alloc (Below.refl _ _) _) (by simp) hb') (Nat.le_trans (by simp) hb'.size) hb''⟩)
def schema_field.f (l0:Sc) (l1:List S40) (a2_0:Bool) (l2_1:List ByteArray) (a2_2:Int) (a2_3:Bool):Option Int:=if l1.length≤1000000000000∧l2_1.length≤1000000000∧(∀ o ∈ l1,FieldOk o) then some (fieldM l0.length l1 ⟨⟨a2_0,l2_1⟩,a2_2,a2_3⟩) else none
theorem schema_field.calls (A0:Option Addr) (c0:Nat) (l0:List S33) (A1:Option Addr) (c1:Nat) (l1:List S40) (a2_0:Bool) (A2_1:Option Addr) (c2_1:Nat) (l2_1:List ByteArray) (a2_2:Int) (a2_3:Bool) (r:Int) (w:World) (hr0:Kd.C k33 w A0 l0.length l0) (hc0:l0.length≤c0) (hr1:Kd.C k40 w A1 l1.length l1) (hc1:l1.length≤c1) (hr2_1:Kd.C Kd.string w A2_1 l2_1.length l2_1) (hc2_1:l2_1.length≤c2_1) (h:schema_field.f l0 l1 a2_0 l2_1 a2_2 a2_3=some r) :
  Calls Try.prog 27 #[.slice A0 l0.length c0,.slice A1 l1.length c1,.agg #[.bool a2_0,.slice A2_1 l2_1.length c2_1,.int .i64 a2_2,.bool a2_3]] w fun e w'=>e=.returned (.int .i64 r)∧Below w.heap.size w w':=by
 unfold schema_field.f at h
 split at h
 case isFalse=>cases h
 rename_i hok
 obtain rfl:=Option.some.inj h
 exact field_calls A0 c0 l0.length A1 c1 l1 ⟨⟨a2_0,l2_1⟩,a2_2,a2_3⟩ A2_1 c2_1 w hr1 hc1 hr2_1 hc2_1 hok.1 hok.2.1 hok.2.2
end Go.Proofs.Ytoihiehoolehiaa.PX
