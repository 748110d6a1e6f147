/- Texts on the way to 'SchemaLevels', one behind the other (part 3). -/
import Derived.Test.YtoihiehoolehiaaMSchemaLevels1
import Derived.Test.YtoihiehoolehiaaMSchemaLevels2
namespace Go.Proofs.Ytoihiehoolehiaa.PX
open Go.RowKit Go.Proofs.YtoihiehoolehiaaW.PrintWords Go.Proofs.YtoihiehoolehiaaW.PrintLast Go.Proofs.YtoihiehoolehiaaW.PrintMore
attribute [local go_sem] max2_int min2_int max_two min_two max_three min_three max_four min_four   
set_option linter.unusedVariables false
set_option linter.unusedSimpArgs false
def cadencelaw3_Make.l0:Nat→Int→Bool→List ByteArray→Bool→List ByteArray→Option (Bool × List ByteArray)
 | 0,_,_,_,_,_=>none
 | k+1,x4,x193000,x193001,x195000,x195001=>if x4 < (x193001.length:Int) then (if x4 < 6 then ((some (([(⟨#[]⟩:ByteArray),(⟨#[97]⟩:ByteArray),(⟨#[98]⟩:ByteArray),(⟨#[99]⟩:ByteArray),(⟨#[100]⟩:ByteArray)]:List ByteArray):List ByteArray)).bind fun y195=>(if 0≤x4 then ((cadencelaw3_within.f ((rdOf ByteArray.empty x193001 x4).size:Int) 5).bind fun t199=>(if 0≤t199 then (if t199 < (y195.length:Int) then (if x195001.length < 8796093022208 then (cadencelaw3_Make.l0 k (wrap64 (x4+1)) x193000 x193001 x195000 (x195001 ++ [rdOf ByteArray.empty y195 t199])) else (none)) else (none)) else (none))) else (none))) else (some (x195000,x195001))) else (some (x195000,x195001))
def cadencelaw3_Make.f (k:Nat) (a0_0:Bool) (l0_1:List ByteArray):Option (Bool × List ByteArray):=cadencelaw3_Make.l0 k 0 a0_0 l0_1 a0_0 ([]:List ByteArray)
theorem cadencelaw3_Make.mono_l:∀ k,(∀ y0 y1 y2 y3 y4,LeO (cadencelaw3_Make.l0 k y0 y1 y2 y3 y4) (cadencelaw3_Make.l0 (k+1) y0 y1 y2 y3 y4))
 | 0=>fun _ _ _ _ _ r h=>by simp [cadencelaw3_Make.l0] at h
 | k+1=>by
  have ih0:=cadencelaw3_Make.mono_l k
  ·intro y0 y1 y2 y3 y4
   unfold cadencelaw3_Make.l0
   repeat' first
   | (with_reducible exact ih0 _ _ _ _ _)
   | (with_reducible exact LeO.refl _)
   | (with_reducible exact LeO.none _)
   | (with_reducible refine LeO.ite ?_ ?_)
   | (with_reducible refine LeO.bind ?_ (fun _=>?_))
   | exact ih0 _ _ _ _ _
   | exact LeO.none _
   | refine LeO.ite ?_ ?_
   | refine LeO.bind ?_ (fun _=>?_)
theorem cadencelaw3_Make.mono:∀ a0 a1 k,LeO (cadencelaw3_Make.f k a0 a1) (cadencelaw3_Make.f (k+1) a0 a1):=by
 intro a0 a1 k
 have ih0:=cadencelaw3_Make.mono_l k
 unfold cadencelaw3_Make.f
 repeat' first
   | (with_reducible exact ih0 _ _ _ _ _)
   | (with_reducible exact LeO.refl _)
   | (with_reducible exact LeO.none _)
   | (with_reducible refine LeO.ite ?_ ?_)
   | (with_reducible refine LeO.bind ?_ (fun _=>?_))
   | exact ih0 _ _ _ _ _
   | exact LeO.none _
   | refine LeO.ite ?_ ?_
   | refine LeO.bind ?_ (fun _=>?_)
def cadencelaw3_Make.T5:Bool × List (List Nat × List Nat):=(true,[([],[]),([0],[0]),([],[]),([],[]),([3],[3]),([],[]),([4,5],[4,5]),([6],[6]),([7],[7]),([8],[8]),([2,9],[2,9]),([10],[10]),([11],[11]),([1,12,9],[1,12]),([0,1,2,3,4,5,6,7,8,9,10,11,12,13],[]),([14,13,13,0,1,2,3,4,5,6,7,8,9,10,11,12,13],[13,14])])
def cadencelaw3_Make.B5:List Nat:=[0,1,0,0,8,0,56,120,248,504,1020,2044,4092,8191,16383,32767]
theorem cadencelaw3_Make.tab5:rtab .any (opsOf Try.f25 5)=cadencelaw3_Make.T5:=by kernel_rfl
theorem cadencelaw3_Make.bits5:waitsOk cadencelaw3_Make.T5.2 cadencelaw3_Make.B5=true:=by kernel_rfl
set_option maxHeartbeats 8000000 in
set_option maxRecDepth 100000 in
theorem cadencelaw3_Make.calls (k:Nat) (a0_0:Bool) (A0_1:Option Addr) (c0_1:Nat) (l0_1:List ByteArray) (r1:Bool) (r2:List ByteArray) (w:World) (hr0_1:Kd.C Kd.string w A0_1 l0_1.length l0_1) (hc0_1:l0_1.length≤c0_1) (h:cadencelaw3_Make.f k a0_0 l0_1=some (r1,r2)) :
  Calls Try.prog 25 #[.agg #[.bool a0_0,.slice A0_1 l0_1.length c0_1]] w fun e w'=>∃ v1_:Value,e=.returned (.agg #[.bool r1,v1_])∧Kd.R Kd.string 9 w' w.heap.size (fun _=>True) v1_ r2∧Below w.heap.size w w':=by
 have hu38:=Try.underlying38
 have HR0_1:=Aside0.mk hr0_1
 have HC0_1:=Aside0.mk hc0_1
 clear hr0_1 hc0_1
 have HB:=Aside0.mk (Below.refl w.heap.size w)
 have H:(cadencelaw3_Make.l0 k 0 a0_0 l0_1 a0_0 ([]:List ByteArray))=some (r1,r2):=h
 clear h
 have H':=Aside0.mk H
 clear H
 go_enter Try.func25,Try.ntmps25
 go_wp2_with (first|((with_reducible refine gate_dst (N:=1) rfl ?_);refine box_event ?hg (N:=1) ?hd (cs:=#[.bool a0_0,.slice A0_1 l0_1.length c0_1]) (t:=38) ?hr ?_;(case hd=>rfl);(case hg=>rfl);(case hr=>first|(go_simp;done)|(go_simp;rfl));intro gb192 hg w2 hbox hb;have n0_:=Aside0.mk (below_step (by repeat (first|(with_reducible first|exact HB.out|apply bA_|apply bN_|apply bD_)|exact HB.out)) hb);have n1_:=Aside0.mk (hbox);have n2_:=Aside0.mk ((by rw [hg];exact (below_size (by repeat (first|(with_reducible first|exact HB.out|apply bA_|apply bN_|apply bD_)|exact HB.out))):w.heap.size≤gb192));have n3_:=Aside0.mk ((by rw [hg];exact (below_size (by repeat (first|(with_reducible first|exact HB.out|apply bA_|apply bN_|apply bD_)|exact HB.out))):w.heap.size≤gb192));clear HB;have HB:=n0_;have BK192:=n1_;have GW192:=n2_;have GE192:=n3_;clear n0_ n1_ n2_ n3_;clear hb hbox hg)|((with_reducible refine gate_dst (N:=2) rfl ?_);refine box_event ?hg (N:=2) ?hd (cs:=#[.bool false,.slice none 0 0]) (t:=38) ?hr ?_;(case hd=>rfl);(case hg=>rfl);(case hr=>first|(go_simp;done)|(go_simp;rfl));intro gb193 hg w3 hbox hb;have n0_:=Aside0.mk (blk_below (g:=gb192) (o:=.cells #[.bool a0_0,.slice A0_1 l0_1.length c0_1] 38 (0,0)) (by (with_reducible repeat (first|refine blk_drewN ?_ _|refine blk_drew ?_|refine blk_alloc ?_ _));exact BK192.out) hb);have n1_:=Aside0.mk (below_step (by repeat (first|(with_reducible first|exact HB.out|apply bA_|apply bN_|apply bD_|refine below_set ?_ GE192.out)|exact HB.out)) hb);have n2_:=Aside0.mk (hbox);have n3_:=Aside0.mk ((by rw [hg];exact (below_size (by repeat (first|(with_reducible first|exact HB.out|apply bA_|apply bN_|apply bD_|refine below_set ?_ GE192.out)|exact HB.out))):w.heap.size≤gb193));have n4_:=Aside0.mk ((by rw [hg];exact (below_size (by repeat (first|(with_reducible first|exact HB.out|apply bA_|apply bN_|apply bD_|refine below_set ?_ GE192.out)|exact HB.out))):w.heap.size≤gb193));have n5_:=Aside0.mk ((by rw [hg];exact Nat.ne_of_lt (blk_lt (g:=gb192) (o:=.cells #[.bool a0_0,.slice A0_1 l0_1.length c0_1] 38 (0,0)) (by (with_reducible repeat (first|refine blk_drewN ?_ _|refine blk_drew ?_|refine blk_alloc ?_ _));exact BK192.out)):gb192≠gb193));have n6_:=Aside0.mk ((by rw [hg];exact Nat.ne_of_gt (blk_lt (g:=gb192) (o:=.cells #[.bool a0_0,.slice A0_1 l0_1.length c0_1] 38 (0,0)) (by (with_reducible repeat (first|refine blk_drewN ?_ _|refine blk_drew ?_|refine blk_alloc ?_ _));exact BK192.out)):gb193≠gb192));clear BK192;clear HB;have BK192:=n0_;have HB:=n1_;have BK193:=n2_;have GW193:=n3_;have GE193:=n4_;have NB192_193:=n5_;have NB193_192:=n6_;clear n0_ n1_ n2_ n3_ n4_ n5_ n6_;clear hb hbox hg;have hnb4:=NB192_193.out;have hnc4:=NB193_192.out;have hcz5_0:w3.cell? ⟨gb192,0,none⟩=some (.bool a0_0):=(blk_cell BK192.out 0).trans rfl;have hcz5_1:w3.cell? ⟨gb192,1,none⟩=some (.slice A0_1 l0_1.length c0_1):=(blk_cell BK192.out 1).trans rfl;have hfz5_0:=blk_frozen BK192.out 0;have hfz5_1:=blk_frozen BK192.out 1)|((with_reducible refine gate_dst (N:=3) rfl ?_);refine box_event ?hg (N:=3) ?hd (cs:=#[.bool false,.slice none 0 0]) (t:=38) ?hr ?_;(case hd=>rfl);(case hg=>rfl);(case hr=>first|(go_simp;done)|(go_simp;rfl));intro gb194 hg w6 hbox hb;have n0_:=Aside0.mk (blk_below (g:=gb192) (o:=.cells #[.bool a0_0,.slice A0_1 l0_1.length c0_1] 38 (0,0)) (by (with_reducible repeat (first|refine blk_drewN ?_ _|refine blk_drew ?_|refine blk_alloc ?_ _));exact BK192.out) hb);have n1_:=Aside0.mk (blk_below (g:=gb193) (o:=.cells #[.bool false,.slice none 0 0] 38 (0,0)) (by (with_reducible repeat (first|refine blk_drewN ?_ _|refine blk_drew ?_|refine blk_alloc ?_ _));exact BK193.out) hb);have n2_:=Aside0.mk (below_step (by repeat (first|(with_reducible first|exact HB.out|apply bA_|apply bN_|apply bD_|refine below_set ?_ GE192.out|refine below_set ?_ GE193.out)|exact HB.out)) hb);have n3_:=Aside0.mk (hbox);have n4_:=Aside0.mk ((by rw [hg];exact (below_size (by repeat (first|(with_reducible first|exact HB.out|apply bA_|apply bN_|apply bD_|refine below_set ?_ GE192.out|refine below_set ?_ GE193.out)|exact HB.out))):w.heap.size≤gb194));have n5_:=Aside0.mk ((by rw [hg];exact (below_size (by repeat (first|(with_reducible first|exact HB.out|apply bA_|apply bN_|apply bD_|refine below_set ?_ GE192.out|refine below_set ?_ GE193.out)|exact HB.out))):w.heap.size≤gb194));have n6_:=Aside0.mk ((by rw [hg];exact Nat.ne_of_lt (blk_lt (g:=gb192) (o:=.cells #[.bool a0_0,.slice A0_1 l0_1.length c0_1] 38 (0,0)) (by (with_reducible repeat (first|refine blk_drewN ?_ _|refine blk_drew ?_|refine blk_alloc ?_ _));exact BK192.out)):gb192≠gb194));have n7_:=Aside0.mk ((by rw [hg];exact Nat.ne_of_gt (blk_lt (g:=gb192) (o:=.cells #[.bool a0_0,.slice A0_1 l0_1.length c0_1] 38 (0,0)) (by (with_reducible repeat (first|refine blk_drewN ?_ _|refine blk_drew ?_|refine blk_alloc ?_ _));exact BK192.out)):gb194≠gb192));have n8_:=Aside0.mk ((by rw [hg];exact Nat.ne_of_lt (blk_lt (g:=gb193) (o:=.cells #[.bool false,.slice none 0 0] 38 (0,0)) (by (with_reducible repeat (first|refine blk_drewN ?_ _|refine blk_drew ?_|refine blk_alloc ?_ _));exact BK193.out)):gb193≠gb194));have n9_:=Aside0.mk ((by rw [hg];exact Nat.ne_of_gt (blk_lt (g:=gb193) (o:=.cells #[.bool false,.slice none 0 0] 38 (0,0)) (by (with_reducible repeat (first|refine blk_drewN ?_ _|refine blk_drew ?_|refine blk_alloc ?_ _));exact BK193.out)):gb194≠gb193));clear BK192;clear BK193;clear HB;have BK192:=n0_;have BK193:=n1_;have HB:=n2_;have BK194:=n3_;have GW194:=n4_;have GE194:=n5_;have NB192_194:=n6_;have NB194_192:=n7_;have NB193_194:=n8_;have NB194_193:=n9_;clear n0_ n1_ n2_ n3_ n4_ n5_ n6_ n7_ n8_ n9_;clear hb hbox hg;have hnb7:=NB194_192.out;have hnc7:=NB192_194.out;have hnb8:=NB194_193.out;have hnc8:=NB193_194.out;have hcz9_0:w6.cell? ⟨gb194,0,none⟩=some (.bool false):=(blk_cell BK194.out 0).trans rfl;have hcz9_1:w6.cell? ⟨gb194,1,none⟩=some (.slice none 0 0):=(blk_cell BK194.out 1).trans rfl;have hfz9_0:=blk_frozen BK194.out 0;have hfz9_1:=blk_frozen BK194.out 1))
 go_loopg [4] k (fun kq v4 w'=>∃ (x4_1:Int) (x195001_1:List ByteArray) (u195001:Value),v4=.int .i64 x4_1∧Aside0 (cadencelaw3_Make.l0 kq x4_1 a0_0 l0_1 a0_0 x195001_1=some (r1,r2))∧Aside0 (kq≤k)∧Aside0 (Kd.R Kd.string 9 w' w.heap.size (fun _=>True) u195001 x195001_1)∧Aside0 (w'.heap[gb192]? = some (.cells #[.bool a0_0,(.slice A0_1 l0_1.length c0_1)] 38 (0,0)))∧Aside0 (w'.heap[gb193]? = some (.cells #[.bool false,(.slice none 0 0)] 38 (0,0)))∧Aside0 (w'.heap[gb194]? = some (.cells #[.bool a0_0,u195001] 38 (0,0)))∧Aside0 (Below w.heap.size w w'))
 case atStart=>exact ⟨(0),(([]:List ByteArray)),(.slice none 0 0),(by first|rfl|(simp;done)|(simp [*];done)),H',⟨Nat.le_refl _⟩,⟨by first|exact Kd.R_nil _ _ _ _ _|exact Kd.N_nil _ _ _ _ _|exact Kd.V_nil _ _ _ _ _|exact Kd.Q_nil _ _ _ _ _|exact Kd.S_nil _ _ _ _ _⟩,⟨by (with_reducible repeat (first|refine blk_drewN ?_ _|refine blk_drew ?_|refine blk_alloc ?_ _));refine blk_far ?_ NB192_194.out _;(with_reducible repeat (first|refine blk_drewN ?_ _|refine blk_drew ?_|refine blk_alloc ?_ _));refine blk_far ?_ NB192_194.out _;(with_reducible repeat (first|refine blk_drewN ?_ _|refine blk_drew ?_|refine blk_alloc ?_ _));exact BK192.out⟩,⟨by (with_reducible repeat (first|refine blk_drewN ?_ _|refine blk_drew ?_|refine blk_alloc ?_ _));refine blk_far ?_ NB193_194.out _;(with_reducible repeat (first|refine blk_drewN ?_ _|refine blk_drew ?_|refine blk_alloc ?_ _));refine blk_far ?_ NB193_194.out _;(with_reducible repeat (first|refine blk_drewN ?_ _|refine blk_drew ?_|refine blk_alloc ?_ _));exact BK193.out⟩,⟨by (with_reducible repeat (first|refine blk_drewN ?_ _|refine blk_drew ?_|refine blk_alloc ?_ _));refine blk_put (cs:=#[.bool a0_0,.slice none 0 0]) ?_ 1 _ rfl;(with_reducible repeat (first|refine blk_drewN ?_ _|refine blk_drew ?_|refine blk_alloc ?_ _));refine blk_put (cs:=#[.bool false,.slice none 0 0]) ?_ 0 _ rfl;(with_reducible repeat (first|refine blk_drewN ?_ _|refine blk_drew ?_|refine blk_alloc ?_ _));exact BK194.out⟩,⟨by repeat (first|(with_reducible first|exact HB.out|apply bA_|apply bN_|apply bD_|refine below_set ?_ GE192.out|refine below_set ?_ GE193.out|refine below_set ?_ GE194.out)|exact HB.out)⟩⟩
 case round =>
  clear H'
  try clear c2
  try clear p2
  try clear c4
  try clear c7
  try clear c8
  try clear hcz5_0
  try clear hcz5_1
  try clear hcz9_0
  try clear hcz9_1
  try clear hfz5_0
  try clear hfz5_1
  try clear hfz9_0
  try clear hfz9_1
  obtain ⟨x4_1,x195001_1,u195001,rfl,HA,HK1,HO_195001,BK192,BK193,BK194,HB⟩:=hrel
  cases gk with
  | zero=>exact absurd HA.out (by simp [cadencelaw3_Make.l0])
  | succ k1 =>
   have H:=HA.out
   clear HA
   simp only [cadencelaw3_Make.l0] at H
   by_cases c10:x4_1 < (l0_1.length:Int)
   ·rw [if_pos c10] at H
    have c10b0:decide (x4_1 < (l0_1.length:Int))=true:=decide_eq_true c10
    clear c10
    by_cases c11:x4_1 < 6
    ·rw [if_pos c11] at H
     have c11b0:decide (x4_1 < 6)=true:=decide_eq_true c11
     clear c11
     obtain ⟨y195,hy195⟩:∃ y_:List ByteArray,y_=(([(⟨#[]⟩:ByteArray),(⟨#[97]⟩:ByteArray),(⟨#[98]⟩:ByteArray),(⟨#[99]⟩:ByteArray),(⟨#[100]⟩:ByteArray)]:List ByteArray)):=⟨_,rfl⟩
     replace H:(if 0≤x4_1 then ((cadencelaw3_within.f ((rdOf ByteArray.empty l0_1 x4_1).size:Int) 5).bind fun t199=>(if 0≤t199 then (if t199 < (y195.length:Int) then (if x195001_1.length < 8796093022208 then (cadencelaw3_Make.l0 k1 (wrap64 (x4_1+1)) a0_0 l0_1 a0_0 (x195001_1 ++ [rdOf ByteArray.empty y195 t199])) else (none)) else (none)) else (none))) else (none))=some (r1,r2):=by first|(rw [hy195];with_reducible exact H)|(have H2_:=(Option.bind_some _ _).symm.trans H;rw [hy195];with_reducible exact H2_)|(have H2_:=(Option.bind_some _ _).symm.trans H;with_reducible exact H2_)|with_reducible exact H|(rw [hy195];exact H)|exact H
     have Ny195:=Aside0.mk hy195
     clear hy195
     by_cases c12:0≤x4_1
     ·rw [if_pos c12] at H
      have c12b0:decide (0≤x4_1)=true:=decide_eq_true c12
      clear c12
      replace H:=Option.bind_eq_some_iff.mp H
      obtain ⟨t199,A130,H⟩:=H
      replace H:(if 0≤t199 then (if t199 < (y195.length:Int) then (if x195001_1.length < 8796093022208 then (cadencelaw3_Make.l0 k1 (wrap64 (x4_1+1)) a0_0 l0_1 a0_0 (x195001_1 ++ [rdOf ByteArray.empty y195 t199])) else (none)) else (none)) else (none))=some (r1,r2):=H
      have A13:=Aside0.mk A130
      clear A130
      by_cases c14:0≤t199
      ·rw [if_pos c14] at H
       have c14b0:decide (0≤t199)=true:=decide_eq_true c14
       clear c14
       by_cases c15:t199 < (y195.length:Int)
       ·rw [if_pos c15] at H
        have c15b0:decide (t199 < (y195.length:Int))=true:=decide_eq_true c15
        clear c15
        by_cases c16:x195001_1.length < 8796093022208
        ·rw [if_pos c16] at H
         have LMc16:=Aside0.mk c16
         clear c16
         obtain ⟨y201,hy201⟩:∃ y_:List ByteArray,y_=(x195001_1 ++ [rdOf ByteArray.empty y195 t199]):=⟨_,rfl⟩
         replace H:(cadencelaw3_Make.l0 k1 (wrap64 (x4_1+1)) a0_0 l0_1 a0_0 y201)=some (r1,r2):=by first|(rw [hy201];with_reducible exact H)|(have H2_:=(Option.bind_some _ _).symm.trans H;rw [hy201];with_reducible exact H2_)|(have H2_:=(Option.bind_some _ _).symm.trans H;with_reducible exact H2_)|with_reducible exact H|(rw [hy201];exact H)|exact H
         have Ny201:=Aside0.mk hy201
         clear hy201
         have H':=Aside0.mk H
         clear H
         have hnb17:=NB192_193.out
         have hnc17:=NB193_192.out
         have hnb18:=NB192_194.out
         have hnc18:=NB194_192.out
         have hcz19_0:wr.cell? ⟨gb192,0,none⟩=some (.bool a0_0):=(blk_cell BK192.out 0).trans rfl
         have hcz19_1:wr.cell? ⟨gb192,1,none⟩=some (.slice A0_1 l0_1.length c0_1):=(blk_cell BK192.out 1).trans rfl
         have hfz19_0:=blk_frozen BK192.out 0
         have hfz19_1:=blk_frozen BK192.out 1
         obtain ⟨Ao20,co20,eo20⟩:=Kd.R_slice HO_195001.out
         subst eo20
         try go_wp2
         have pi200:(0≤(t199:Int))=True:=eq_true (of_decide_eq_true (by first|(with_reducible assumption)|assumption))
         have qi200:(t199 < (y195.length:Int))=True:=eq_true (of_decide_eq_true (by first|(with_reducible assumption)|assumption))
         have n0_:=Aside0.mk (rD_ HO_195001.out)
         have n1_:=Aside0.mk (blk_drew BK192.out)
         have n2_:=Aside0.mk (blk_drew BK193.out)
         have n3_:=Aside0.mk (blk_drew BK194.out)
         have n4_:=Aside0.mk (bD_ HB.out)
         clear HO_195001
         clear BK192
         clear BK193
         clear BK194
         clear HB
         have HO_195001:=n0_
         have BK192:=n1_
         have BK193:=n2_
         have BK194:=n3_
         have HB:=n4_
         clear n0_ n1_ n2_ n3_ n4_
         have p198:0≤(x4_1:Int):=of_decide_eq_true (by first|(with_reducible assumption)|assumption)
         have q198:x4_1 < (l0_1.length:Int):=of_decide_eq_true (by first|(with_reducible assumption)|assumption)
         obtain ⟨ad198,e198,hx198_0⟩:=Kd.at_string HR0_1.out x4_1 p198 q198
         have hw198_0:=hx198_0
         cases e198
         replace hx198_0:=(HB.out.cell (World.block_lt_of_cell? w _ hx198_0)).trans hx198_0
         replace p198:=eq_true p198
         replace q198:=eq_true q198
         refine start_ (n:=16) (S:=fun w'=>w'.cell? ⟨gb194,0,none⟩=some (.bool a0_0)∧w'.cell? ⟨gb194,1,none⟩=some (.slice Ao20 x195001_1.length co20)∧w'.cell? ⟨gb192,0,none⟩=some (.bool a0_0)∧w'.cell? ⟨gb192,1,none⟩=some (.slice (some ad198) l0_1.length c0_1)∧w'.cell? (ad198.add (x4_1).toNat)=some (.string (rdOf ByteArray.empty l0_1 x4_1))) (ds:=[15]) #[false,false,false,false,false,false,false,false,false,false,false,false,false,false,false,false] (by kernel_rfl) rfl rfl ⟨(blk_cell BK194.out 0).trans rfl,(blk_cell BK194.out 1).trans rfl,(blk_cell BK192.out 0).trans rfl,(blk_cell BK192.out 1).trans rfl,((HB.out.cell (World.block_lt_of_cell? w _ hw198_0)).trans hw198_0)⟩ (fun hHeld=>?_);refine with_tabW cadencelaw3_Make.tab5 cadencelaw3_Make.bits5 (fun HT_ HW_=>?_)
         generalize wr.drew=w21 at HO_195001 BK192 BK193 BK194 HB hx198_0 hHeld ⊢
         refine pure_ (i:=0) (N:=some 19) (v:=?_) (a':=?_) #[true,false,false,false,false,false,false,false,false,false,false,false,false,false,false,false] rfl rfl (any_of HT_.out (by kernel_rfl)) (fun _ _ _ h=>h) (Or.inl ⟨by rfl,?_⟩) ?_ ?_
         rotate_left
         ·intro w'
          go_simp
          with_reducible rfl
         rotate_left
         ·simp only [Act.put,List.setIfInBounds_toArray,List.set_cons_zero,List.set_cons_succ,i64_w,i32_w]
          rfl
         refine pure_ (i:=3) (N:=some 22) (v:=?_) (a':=?_) #[true,false,false,true,false,false,false,false,false,false,false,false,false,false,false,false] rfl rfl (any_of HT_.out (by kernel_rfl)) (fun _ _ _ h=>h) (Or.inl ⟨by rfl,?_⟩) ?_ ?_
         rotate_left
         ·intro w'
          go_simp
          with_reducible rfl
         rotate_left
         ·simp only [Act.put,List.setIfInBounds_toArray,List.set_cons_zero,List.set_cons_succ,i64_w,i32_w]
          rfl
         refine pure_ (i:=5) (N:=some 24) (v:=?_) (a':=?_) #[true,false,false,true,false,true,false,false,false,false,false,false,false,false,false,false] rfl rfl (any_of HT_.out (by kernel_rfl)) (fun _ _ _ h=>h) (Or.inl ⟨by rfl,?_⟩) ?_ ?_
         rotate_left
         ·intro w'
          go_simp
          with_reducible rfl
         rotate_left
         ·simp only [Act.put,List.setIfInBounds_toArray,List.set_cons_zero,List.set_cons_succ,i64_w,i32_w]
          rfl
         refine take_ (i:=1) (N:=some 20) (v:=?_) (a':=?_) #[true,true,false,true,false,true,false,false,false,false,false,false,false,false,false,false] rfl rfl (take_ofW HT_.out HW_.out (by kernel_rfl)) (fun _ _ _ h=>h) (Or.inl ⟨by rfl,?_⟩) hHeld ?_ ?_
         rotate_left
         ·rintro w' ⟨s0,s1,s2,s3,s4⟩
          go_simp
          with_reducible rfl
         rotate_left
         ·simp only [Act.put,List.setIfInBounds_toArray,List.set_cons_zero,List.set_cons_succ,i64_w,i32_w]
          rfl
         refine take_ (i:=4) (N:=some 23) (v:=?_) (a':=?_) #[true,true,false,true,true,true,false,false,false,false,false,false,false,false,false,false] rfl rfl (take_ofW HT_.out HW_.out (by kernel_rfl)) (fun _ _ _ h=>h) (Or.inl ⟨by rfl,?_⟩) hHeld ?_ ?_
         rotate_left
         ·rintro w' ⟨s0,s1,s2,s3,s4⟩
          go_simp
          with_reducible rfl
         rotate_left
         ·simp only [Act.put,List.setIfInBounds_toArray,List.set_cons_zero,List.set_cons_succ,i64_w,i32_w]
          rfl
         refine pure_ (i:=6) (N:=some 25) (v:=?_) (a':=?_) #[true,true,false,true,true,true,true,false,false,false,false,false,false,false,false,false] rfl rfl (any_of HT_.out (by kernel_rfl)) (fun _ _ _ h=>h) (Or.inl ⟨by rfl,?_⟩) ?_ ?_
         rotate_left
         ·intro w'
          go_simp
          with_reducible rfl
         rotate_left
         ·simp only [Act.put,List.setIfInBounds_toArray,List.set_cons_zero,List.set_cons_succ,i64_w,i32_w]
          rfl
         refine take_ (i:=7) (N:=some 26) (v:=?_) (a':=?_) #[true,true,false,true,true,true,true,true,false,false,false,false,false,false,false,false] rfl rfl (take_ofW HT_.out HW_.out (by kernel_rfl)) (fun _ _ _ h=>h) (Or.inl ⟨by rfl,?_⟩) hHeld ?_ ?_
         rotate_left
         ·rintro w' ⟨s0,s1,s2,s3,s4⟩
          go_simp
          with_reducible rfl
         rotate_left
         ·simp only [Act.put,List.setIfInBounds_toArray,List.set_cons_zero,List.set_cons_succ,i64_w,i32_w]
          rfl
         refine pure_ (i:=8) (N:=some 27) (v:=?_) (a':=?_) #[true,true,false,true,true,true,true,true,true,false,false,false,false,false,false,false] rfl rfl (any_of HT_.out (by kernel_rfl)) (fun _ _ _ h=>h) (Or.inl ⟨by rfl,?_⟩) ?_ ?_
         rotate_left
         ·intro w'
          go_simp
          with_reducible rfl
         rotate_left
         ·simp only [Act.put,List.setIfInBounds_toArray,List.set_cons_zero,List.set_cons_succ,i64_w,i32_w]
          rfl
         refine join_ (σ:=Value × Addr) 6 #[true,true,true,true,true,true,true,true,true,true,false,false,false,false,false,false] (fun s_=>[(21,s_.1),(28,.int .i64 t199)]) (fun s_ w'=>(w'.cell? ⟨gb194,0,none⟩=some (.bool a0_0)∧w'.cell? ⟨gb194,1,none⟩=some (.slice Ao20 x195001_1.length co20)∧w'.cell? ⟨gb192,0,none⟩=some (.bool a0_0)∧w'.cell? ⟨gb192,1,none⟩=some (.slice (some ad198) l0_1.length c0_1)∧w'.cell? (ad198.add (x4_1).toNat)=some (.string (rdOf ByteArray.empty l0_1 x4_1)))∧(Kd.R Kd.string 9 w' w.heap.size (fun k_=>some k_≠(.slice Ao20 x195001_1.length co20:Value).ownBlock) s_.1 y195)∧(Kd.R Kd.string 9 w' w.heap.size (fun k_=>some k_≠(s_.1:Value).ownBlock) (.slice Ao20 x195001_1.length co20) x195001_1)∧(∃ c_,(s_.1:Value)=.slice (some s_.2) y195.length c_)∧(w'.heap[gb192]? = some (.cells #[.bool a0_0,.slice (some ad198) l0_1.length c0_1] 38 (0,0)))∧(w'.heap[gb193]? = some (.cells #[.bool false,.slice none 0 0] 38 (0,0)))∧(w'.heap[gb194]? = some (.cells #[.bool a0_0,.slice Ao20 x195001_1.length co20] 38 (0,0)))∧(Below w.heap.size w w')) ?_ ?_
         rotate_left
         ·intro hCont
          refine two_ (i:=2) (j:=9) (Ni:=some 21) (Nj:=some 28) #[true,true,true,true,true,true,true,true,true,false,false,false,false,false,false,false] #[true,true,false,true,true,true,true,true,true,true,false,false,false,false,false,false] rfl rfl rfl rfl (two_of HT_.out (by kernel_rfl)) (by decide) (by decide) (fun K hK=>?_) (fun K hK=>?_)
          ·skip
           refine Kd.R_lit_step Kd.string _ 9 ?hg (N:=21) ?hd (xs:=([(⟨#[]⟩:ByteArray),(⟨#[97]⟩:ByteArray),(⟨#[98]⟩:ByteArray),(⟨#[99]⟩:ByteArray),(⟨#[100]⟩:ByteArray)]:List ByteArray)) (inner:=[.string (⟨#[]⟩:ByteArray),.string (⟨#[97]⟩:ByteArray),.string (⟨#[98]⟩:ByteArray),.string (⟨#[99]⟩:ByteArray),.string (⟨#[100]⟩:ByteArray)]) (ok:=fun _=>True) (okp:=fun _=>True) ?hr ?hp (fun _ hk=>hk) trivial (Below.refl _ _) (Nat.le_refl _) (by simp) ?_;(case hd=>rfl);(case hg=>rfl);(case hr=>first|(go_simp;done)|(go_simp;rfl));(case hp=>exact (Reps.one (show Kd.M Kd.string _ _ _ (⟨#[]⟩:ByteArray) [.string (⟨#[]⟩:ByteArray)] from rfl) (Reps.one (show Kd.M Kd.string _ _ _ (⟨#[97]⟩:ByteArray) [.string (⟨#[97]⟩:ByteArray)] from rfl) (Reps.one (show Kd.M Kd.string _ _ _ (⟨#[98]⟩:ByteArray) [.string (⟨#[98]⟩:ByteArray)] from rfl) (Reps.one (show Kd.M Kd.string _ _ _ (⟨#[99]⟩:ByteArray) [.string (⟨#[99]⟩:ByteArray)] from rfl) (Reps.one (show Kd.M Kd.string _ _ _ (⟨#[100]⟩:ByteArray) [.string (⟨#[100]⟩:ByteArray)] from rfl) (Reps.none _ _)))))))
           intro v196 w22 ho23 hb hg_ hnew_
           clear hg_ hnew_
           (first|rw [← Ny195.out] at ho23|(simp only [Int.reduceToNat] at ho23;rw [← Ny195.out] at ho23))
           have n0_:=Aside0.mk (Kd.R_elder' (by (with_reducible repeat (first|apply rA_|apply rN_|apply rD_));exact HO_195001.out) (Kd.R_base ho23) hb)
           have n1_:=Aside0.mk (Kd.R_lower (Kd.R_new' ho23 (Kd.R_lt (by (with_reducible repeat (first|apply rA_|apply rN_|apply rD_));exact HO_195001.out))) (below_size (by repeat (first|(with_reducible first|exact HB.out|apply bA_|apply bN_|apply bD_|refine below_set ?_ GE192.out|refine below_set ?_ GE193.out|refine below_set ?_ GE194.out)|exact HB.out))))
           have n2_:=Aside0.mk (blk_below (g:=gb192) (o:=.cells #[.bool a0_0,.slice (some ad198) l0_1.length c0_1] 38 (0,0)) (by (with_reducible repeat (first|refine blk_drewN ?_ _|refine blk_drew ?_|refine blk_alloc ?_ _));exact BK192.out) hb)
           have n3_:=Aside0.mk (blk_below (g:=gb193) (o:=.cells #[.bool false,.slice none 0 0] 38 (0,0)) (by (with_reducible repeat (first|refine blk_drewN ?_ _|refine blk_drew ?_|refine blk_alloc ?_ _));exact BK193.out) hb)
           have n4_:=Aside0.mk (blk_below (g:=gb194) (o:=.cells #[.bool a0_0,.slice Ao20 x195001_1.length co20] 38 (0,0)) (by (with_reducible repeat (first|refine blk_drewN ?_ _|refine blk_drew ?_|refine blk_alloc ?_ _));exact BK194.out) hb)
           have n5_:=Aside0.mk (below_step (by repeat (first|(with_reducible first|exact HB.out|apply bA_|apply bN_|apply bD_|refine below_set ?_ GE192.out|refine below_set ?_ GE193.out|refine below_set ?_ GE194.out)|exact HB.out)) hb)
           clear HO_195001
           clear BK192
           clear BK193
           clear BK194
           clear HB
           have HO_195001:=n0_
           have HO197:=n1_
           have BK192:=n2_
           have BK193:=n3_
           have BK194:=n4_
           have HB:=n5_
           clear n0_ n1_ n2_ n3_ n4_ n5_
           clear hb ho23
           obtain ⟨Ao24,co24,eo24⟩:=Kd.R_slice HO197.out
           subst eo24
           obtain ⟨ado24,fo24,_⟩:=Kd.at_string (Kd.R_reads' HO197.out).2.2 0 (by decide) (by rw [Ny195.out];simp)
           cases fo24
           refine hK.out _ _ ⟨(blk_cell BK194.out 0).trans rfl,(blk_cell BK194.out 1).trans rfl,(blk_cell BK192.out 0).trans rfl,(blk_cell BK192.out 1).trans rfl,((HB.out.cell (World.block_lt_of_cell? w _ hw198_0)).trans hw198_0)⟩ (fun hHeld=>?_)
           clear hK K
           refine norm_ (a':=?_) ?_ ?_
           rotate_left
           ·show Act.put _ (some 21) _=_
            simp only [Act.put,List.setIfInBounds_toArray,List.set_cons_zero,List.set_cons_succ,i64_w,i32_w]
            rfl
           refine one_ (i:=9) (N:=some 28) #[true,true,true,true,true,true,true,true,true,true,false,false,false,false,false,false] rfl rfl (one_of HT_.out (by kernel_rfl)) (by decide) (fun K hK=>?_)
           refine goes_ Try.func44 (by kernel_rfl) rfl #[.int .i64 ((rdOf ByteArray.empty l0_1 x4_1).size:Int),.int .i64 5] (by rfl) rfl rfl (by (try simp only [List.map_toArray,List.map_cons,List.map_nil]);first|done|rfl|(simp only [List.length_drop,List.length_take];rfl)) ?_
           with_reducible refine (cadencelaw3_within.calls ((rdOf ByteArray.empty l0_1 x4_1).size:Int) 5 t199 _ A13.out).mono ?_
           rintro e w' ⟨rfl,⟨nd,rfl⟩⟩
           refine ⟨_,rfl,?_⟩
           refine hK.out _ _ ⟨(blk_cell BK194.out 0).trans rfl,(blk_cell BK194.out 1).trans rfl,(blk_cell BK192.out 0).trans rfl,(blk_cell BK192.out 1).trans rfl,((HB.out.cell (World.block_lt_of_cell? w _ hw198_0)).trans hw198_0)⟩ (fun hHeld=>?_)
           clear hK K
           refine norm_ (a':=?_) ?_ ?_
           rotate_left
           ·show Act.put _ (some 28) _=_
            simp only [Act.put,List.setIfInBounds_toArray,List.set_cons_zero,List.set_cons_succ,i64_w,i32_w]
            rfl
           exact norm_ (by simp only [putAll,Act.put,List.setIfInBounds_toArray,List.set_cons_zero,List.set_cons_succ]) (hCont (.slice (some ado24) y195.length co24,ado24) _ ⟨hHeld,(by (with_reducible repeat (first|apply rA_|apply rN_|apply rD_));exact Kd.R_mono HO197.out (fun _ hk=>hk.2)),(by (with_reducible repeat (first|apply rA_|apply rN_|apply rD_));exact Kd.R_mono HO_195001.out (fun _ hk=>hk.2)),⟨_,rfl⟩,(by (with_reducible repeat (first|refine blk_drewN ?_ _|refine blk_drew ?_|refine blk_alloc ?_ _));exact BK192.out),(by (with_reducible repeat (first|refine blk_drewN ?_ _|refine blk_drew ?_|refine blk_alloc ?_ _));exact BK193.out),(by (with_reducible repeat (first|refine blk_drewN ?_ _|refine blk_drew ?_|refine blk_alloc ?_ _));exact BK194.out),(by repeat (first|(with_reducible first|exact HB.out|apply bA_|apply bN_|apply bD_|refine below_set ?_ GE192.out|refine below_set ?_ GE193.out|refine below_set ?_ GE194.out)|exact HB.out))⟩)
          ·skip
           refine goes_ Try.func44 (by kernel_rfl) rfl #[.int .i64 ((rdOf ByteArray.empty l0_1 x4_1).size:Int),.int .i64 5] (by rfl) rfl rfl (by (try simp only [List.map_toArray,List.map_cons,List.map_nil]);first|done|rfl|(simp only [List.length_drop,List.length_take];rfl)) ?_
           with_reducible refine (cadencelaw3_within.calls ((rdOf ByteArray.empty l0_1 x4_1).size:Int) 5 t199 _ A13.out).mono ?_
           rintro e w' ⟨rfl,⟨nd,rfl⟩⟩
           refine ⟨_,rfl,?_⟩
           refine hK.out _ _ ⟨(blk_cell BK194.out 0).trans rfl,(blk_cell BK194.out 1).trans rfl,(blk_cell BK192.out 0).trans rfl,(blk_cell BK192.out 1).trans rfl,((HB.out.cell (World.block_lt_of_cell? w _ hw198_0)).trans hw198_0)⟩ (fun hHeld=>?_)
           clear hK K
           refine norm_ (a':=?_) ?_ ?_
           rotate_left
           ·show Act.put _ (some 28) _=_
            simp only [Act.put,List.setIfInBounds_toArray,List.set_cons_zero,List.set_cons_succ,i64_w,i32_w]
            rfl
           refine one_ (i:=2) (N:=some 21) #[true,true,true,true,true,true,true,true,true,true,false,false,false,false,false,false] rfl rfl (one_of HT_.out (by kernel_rfl)) (by decide) (fun K hK=>?_)
           refine Kd.R_lit_step Kd.string _ 9 ?hg (N:=21) ?hd (xs:=([(⟨#[]⟩:ByteArray),(⟨#[97]⟩:ByteArray),(⟨#[98]⟩:ByteArray),(⟨#[99]⟩:ByteArray),(⟨#[100]⟩:ByteArray)]:List ByteArray)) (inner:=[.string (⟨#[]⟩:ByteArray),.string (⟨#[97]⟩:ByteArray),.string (⟨#[98]⟩:ByteArray),.string (⟨#[99]⟩:ByteArray),.string (⟨#[100]⟩:ByteArray)]) (ok:=fun _=>True) (okp:=fun _=>True) ?hr ?hp (fun _ hk=>hk) trivial (Below.refl _ _) (Nat.le_refl _) (by simp) ?_;(case hd=>rfl);(case hg=>rfl);(case hr=>first|(go_simp;done)|(go_simp;rfl));(case hp=>exact (Reps.one (show Kd.M Kd.string _ _ _ (⟨#[]⟩:ByteArray) [.string (⟨#[]⟩:ByteArray)] from rfl) (Reps.one (show Kd.M Kd.string _ _ _ (⟨#[97]⟩:ByteArray) [.string (⟨#[97]⟩:ByteArray)] from rfl) (Reps.one (show Kd.M Kd.string _ _ _ (⟨#[98]⟩:ByteArray) [.string (⟨#[98]⟩:ByteArray)] from rfl) (Reps.one (show Kd.M Kd.string _ _ _ (⟨#[99]⟩:ByteArray) [.string (⟨#[99]⟩:ByteArray)] from rfl) (Reps.one (show Kd.M Kd.string _ _ _ (⟨#[100]⟩:ByteArray) [.string (⟨#[100]⟩:ByteArray)] from rfl) (Reps.none _ _)))))))
           intro v196 w22 ho23 hb hg_ hnew_
           clear hg_ hnew_
           (first|rw [← Ny195.out] at ho23|(simp only [Int.reduceToNat] at ho23;rw [← Ny195.out] at ho23))
           have n0_:=Aside0.mk (Kd.R_elder' (by (with_reducible repeat (first|apply rA_|apply rN_|apply rD_));exact HO_195001.out) (Kd.R_base ho23) hb)
           have n1_:=Aside0.mk (Kd.R_lower (Kd.R_new' ho23 (Kd.R_lt (by (with_reducible repeat (first|apply rA_|apply rN_|apply rD_));exact HO_195001.out))) (below_size (by repeat (first|(with_reducible first|exact HB.out|apply bA_|apply bN_|apply bD_|refine below_set ?_ GE192.out|refine below_set ?_ GE193.out|refine below_set ?_ GE194.out)|exact HB.out))))
           have n2_:=Aside0.mk (blk_below (g:=gb192) (o:=.cells #[.bool a0_0,.slice (some ad198) l0_1.length c0_1] 38 (0,0)) (by (with_reducible repeat (first|refine blk_drewN ?_ _|refine blk_drew ?_|refine blk_alloc ?_ _));exact BK192.out) hb)
           have n3_:=Aside0.mk (blk_below (g:=gb193) (o:=.cells #[.bool false,.slice none 0 0] 38 (0,0)) (by (with_reducible repeat (first|refine blk_drewN ?_ _|refine blk_drew ?_|refine blk_alloc ?_ _));exact BK193.out) hb)
           have n4_:=Aside0.mk (blk_below (g:=gb194) (o:=.cells #[.bool a0_0,.slice Ao20 x195001_1.length co20] 38 (0,0)) (by (with_reducible repeat (first|refine blk_drewN ?_ _|refine blk_drew ?_|refine blk_alloc ?_ _));exact BK194.out) hb)
           have n5_:=Aside0.mk (below_step (by repeat (first|(with_reducible first|exact HB.out|apply bA_|apply bN_|apply bD_|refine below_set ?_ GE192.out|refine below_set ?_ GE193.out|refine below_set ?_ GE194.out)|exact HB.out)) hb)
           clear HO_195001
           clear BK192
           clear BK193
           clear BK194
           clear HB
           have HO_195001:=n0_
           have HO197:=n1_
           have BK192:=n2_
           have BK193:=n3_
           have BK194:=n4_
           have HB:=n5_
           clear n0_ n1_ n2_ n3_ n4_ n5_
           clear hb ho23
           obtain ⟨Ao24,co24,eo24⟩:=Kd.R_slice HO197.out
           subst eo24
           obtain ⟨ado24,fo24,_⟩:=Kd.at_string (Kd.R_reads' HO197.out).2.2 0 (by decide) (by rw [Ny195.out];simp)
           cases fo24
           refine hK.out _ _ ⟨(blk_cell BK194.out 0).trans rfl,(blk_cell BK194.out 1).trans rfl,(blk_cell BK192.out 0).trans rfl,(blk_cell BK192.out 1).trans rfl,((HB.out.cell (World.block_lt_of_cell? w _ hw198_0)).trans hw198_0)⟩ (fun hHeld=>?_)
           clear hK K
           refine norm_ (a':=?_) ?_ ?_
           rotate_left
           ·show Act.put _ (some 21) _=_
            simp only [Act.put,List.setIfInBounds_toArray,List.set_cons_zero,List.set_cons_succ,i64_w,i32_w]
            rfl
           exact norm_ (by simp only [putAll,Act.put,List.setIfInBounds_toArray,List.set_cons_zero,List.set_cons_succ]) (hCont (.slice (some ado24) y195.length co24,ado24) _ ⟨hHeld,(by (with_reducible repeat (first|apply rA_|apply rN_|apply rD_));exact Kd.R_mono HO197.out (fun _ hk=>hk.2)),(by (with_reducible repeat (first|apply rA_|apply rN_|apply rD_));exact Kd.R_mono HO_195001.out (fun _ hk=>hk.2)),⟨_,rfl⟩,(by (with_reducible repeat (first|refine blk_drewN ?_ _|refine blk_drew ?_|refine blk_alloc ?_ _));exact BK192.out),(by (with_reducible repeat (first|refine blk_drewN ?_ _|refine blk_drew ?_|refine blk_alloc ?_ _));exact BK193.out),(by (with_reducible repeat (first|refine blk_drewN ?_ _|refine blk_drew ?_|refine blk_alloc ?_ _));exact BK194.out),(by repeat (first|(with_reducible first|exact HB.out|apply bA_|apply bN_|apply bD_|refine below_set ?_ GE192.out|refine below_set ?_ GE193.out|refine below_set ?_ GE194.out)|exact HB.out))⟩)
         rintro ⟨v196,adz_v196⟩ w25 ⟨hS_,h0_,h1_,h2_,h3_,h4_,h5_,h6_⟩
         have n0_:Aside0 (Kd.R Kd.string 9 w25 w.heap.size (fun k_=>some k_≠(.slice Ao20 x195001_1.length co20:Value).ownBlock) v196 y195):=⟨h0_⟩
         have n1_:Aside0 (Kd.R Kd.string 9 w25 w.heap.size (fun k_=>some k_≠(v196:Value).ownBlock) (.slice Ao20 x195001_1.length co20) x195001_1):=⟨h1_⟩
         have n2_:Aside0 (∃ c_,(v196:Value)=.slice (some adz_v196) y195.length c_):=⟨h2_⟩
         have n3_:Aside0 (w25.heap[gb192]? = some (.cells #[.bool a0_0,.slice (some ad198) l0_1.length c0_1] 38 (0,0))):=⟨h3_⟩
         have n4_:Aside0 (w25.heap[gb193]? = some (.cells #[.bool false,.slice none 0 0] 38 (0,0))):=⟨h4_⟩
         have n5_:Aside0 (w25.heap[gb194]? = some (.cells #[.bool a0_0,.slice Ao20 x195001_1.length co20] 38 (0,0))):=⟨h5_⟩
         have n6_:Aside0 (Below w.heap.size w w25):=⟨h6_⟩
         clear HO_195001
         clear BK192
         clear BK193
         clear BK194
         clear HB
         clear h0_ h1_ h2_ h3_ h4_ h5_ h6_
         have HO197:=n0_
         have HO_195001:=n1_
         have HA_HO197:=n2_
         have BK192:=n3_
         have BK193:=n4_
         have BK194:=n5_
         have HB:=n6_
         clear n0_ n1_ n2_ n3_ n4_ n5_ n6_
         have hHeld:w25.cell? ⟨gb194,0,none⟩=some (.bool a0_0)∧w25.cell? ⟨gb194,1,none⟩=some (.slice Ao20 x195001_1.length co20)∧w25.cell? ⟨gb192,0,none⟩=some (.bool a0_0)∧w25.cell? ⟨gb192,1,none⟩=some (.slice (some ad198) l0_1.length c0_1)∧w25.cell? (ad198.add (x4_1).toNat)=some (.string (rdOf ByteArray.empty l0_1 x4_1)):=hS_
         obtain ⟨co26,eo26⟩:=HA_HO197.out
         clear HA_HO197
         subst eo26
         refine norm_ (a':=?_) ?_ ?_
         rotate_left
         ·simp only [putAll,Act.put,List.setIfInBounds_toArray,List.set_cons_zero,List.set_cons_succ]
          rfl
         refine pure_ (i:=10) (N:=some 29) (v:=?_) (a':=?_) #[true,true,true,true,true,true,true,true,true,true,true,false,false,false,false,false] rfl rfl (any_of HT_.out (by kernel_rfl)) (fun _ _ _ h=>h) (Or.inl ⟨by rfl,?_⟩) ?_ ?_
         rotate_left
         ·intro w'
          go_simp
          with_reducible rfl
         rotate_left
         ·simp only [Act.put,List.setIfInBounds_toArray,List.set_cons_zero,List.set_cons_succ,i64_w,i32_w]
          rfl
         refine one_ (i:=11) (N:=some 30) #[true,true,true,true,true,true,true,true,true,true,true,true,false,false,false,false] rfl rfl (one_of HT_.out (by kernel_rfl)) (by decide) (fun K hK=>?_)
         (have p200:0≤(t199:Int):=of_decide_eq_true (by first|(with_reducible assumption)|assumption);have q200:t199 < (y195.length:Int):=of_decide_eq_true (by first|(with_reducible assumption)|assumption);obtain ⟨ad200,e200,hx200_0⟩:=Kd.at_string (Kd.R_reads' HO197.out).2.2 t199 p200 q200;obtain rfl:adz_v196=ad200:=(by injection e200))
         refine value_ (w1:=?_) (v:=?_) (by rfl) rfl ?_ ?_
         rotate_left 2
         ·go_simp
          constructor
          ·rfl
          ·rfl
         clear hx200_0
         refine hK.out _ _ ⟨(blk_cell BK194.out 0).trans rfl,(blk_cell BK194.out 1).trans rfl,(blk_cell BK192.out 0).trans rfl,(blk_cell BK192.out 1).trans rfl,((HB.out.cell (World.block_lt_of_cell? w _ hw198_0)).trans hw198_0)⟩ (fun hHeld=>?_)
         clear hK K
         refine norm_ (a':=?_) ?_ ?_
         rotate_left
         ·show Act.put _ (some 30) _=_
          simp only [Act.put,List.setIfInBounds_toArray,List.set_cons_zero,List.set_cons_succ,i64_w,i32_w]
          rfl
         refine one_ (i:=12) (N:=some 31) #[true,true,true,true,true,true,true,true,true,true,true,true,true,false,false,false] rfl rfl (one_of HT_.out (by kernel_rfl)) (by decide) (fun K hK=>?_)
         refine value_ (w1:=?_) (v:=?_) (by rfl) rfl ?_ ?_
         rotate_left 2
         ·go_simp
          constructor
          ·rfl
          ·rfl
         refine hK.out _ _ ⟨(blk_cell (blk_alloc BK194.out _) 0).trans rfl,(blk_cell (blk_alloc BK194.out _) 1).trans rfl,(blk_cell (blk_alloc BK192.out _) 0).trans rfl,(blk_cell (blk_alloc BK192.out _) 1).trans rfl,(World.cell?_alloc_lt _ _ _ (World.block_lt_of_cell? _ _ (((HB.out.cell (World.block_lt_of_cell? w _ hw198_0)).trans hw198_0)))).trans (((HB.out.cell (World.block_lt_of_cell? w _ hw198_0)).trans hw198_0))⟩ (fun hHeld=>?_)
         clear hK K
         refine norm_ (a':=?_) ?_ ?_
         rotate_left
         ·show Act.put _ (some 31) _=_
          simp only [Act.put,List.setIfInBounds_toArray,List.set_cons_zero,List.set_cons_succ,i64_w,i32_w]
          rfl
         refine one_ (i:=13) (N:=some 32) #[true,true,true,true,true,true,true,true,true,true,true,true,true,true,false,false] rfl rfl (one_of HT_.out (by kernel_rfl)) (by decide) (fun K hK=>?_)
         refine Kd.R_append_step Kd.string (w0:=w) w.heap.size (by rfl) (.tmp 20) (.tmp 31) 36 9 (.string ⟨#[]⟩) 16 rfl Try.underlying36 info9 rfl (by decide) (by omega) (.slice Ao20 x195001_1.length co20) x195001_1 (rdOf ByteArray.empty y195 t199) [.string (rdOf ByteArray.empty y195 t199)] (fun k_=>some k_≠(.slice (some adz_v196) y195.length co26:Value).ownBlock) (fun _=>False) rfl rfl ?aP (fun _ hk=>hk.elim) ?aF ?aO ?aB ?aS ?aL ?_
         (case aP=>exact rfl)
         (case aB=>exact (by repeat (first|(with_reducible first|exact HB.out|apply bA_|apply bN_|apply bD_|refine below_set ?_ GE192.out|refine below_set ?_ GE193.out|refine below_set ?_ GE194.out)|exact HB.out)))
         (case aF=>exact (fun k_ hk=>Kd.fresh' (Kd.R_lt (by (with_reducible repeat (first|apply rA_|apply rN_|apply rD_));exact HO197.out)) k_ hk))
         (case aO=>exact (by (with_reducible repeat (first|apply rA_|apply rN_|apply rD_));exact HO_195001.out))
         (case aS=>exact (below_size (by repeat (first|(with_reducible first|exact HB.out|apply bA_|apply bN_|apply bD_|refine below_set ?_ GE192.out|refine below_set ?_ GE193.out|refine below_set ?_ GE194.out)|exact HB.out))))
         (case aL=>have:=LMc16.out;omega)
         intro v202 w27 ho hb hg hat
         rw [← Ny201.out] at ho
         have n0_:=Aside0.mk (blk_grown (g:=gb192) (o:=.cells #[.bool a0_0,.slice (some ad198) l0_1.length c0_1] 38 (0,0)) (by (with_reducible repeat (first|refine blk_drewN ?_ _|refine blk_drew ?_|refine blk_alloc ?_ _));exact BK192.out) hg (Kd.R_ne HO_195001.out BK192.out (by decide)))
         have n1_:=Aside0.mk (blk_grown (g:=gb193) (o:=.cells #[.bool false,.slice none 0 0] 38 (0,0)) (by (with_reducible repeat (first|refine blk_drewN ?_ _|refine blk_drew ?_|refine blk_alloc ?_ _));exact BK193.out) hg (Kd.R_ne HO_195001.out BK193.out (by decide)))
         have n2_:=Aside0.mk (blk_grown (g:=gb194) (o:=.cells #[.bool a0_0,.slice Ao20 x195001_1.length co20] 38 (0,0)) (by (with_reducible repeat (first|refine blk_drewN ?_ _|refine blk_drew ?_|refine blk_alloc ?_ _));exact BK194.out) hg (Kd.R_ne HO_195001.out BK194.out (by decide)))
         have n3_:=Aside0.mk (Kd.R_after (ok:=(fun _=>True)) (by (with_reducible repeat (first|apply rA_|apply rN_|apply rD_));exact Kd.R_mono HO197.out (fun _ hk=>⟨trivial,hk⟩)) hg hat)
         have n4_:=Aside0.mk (hb)
         have n5_:=Aside0.mk (ho)
         clear BK192
         clear BK193
         clear BK194
         clear HO197
         clear HB
         clear HO_195001
         have BK192:=n0_
         have BK193:=n1_
         have BK194:=n2_
         have HO197:=n3_
         have HB:=n4_
         have HO203:=n5_
         clear n0_ n1_ n2_ n3_ n4_ n5_
         clear ho hb hg hat
         obtain ⟨Ao28,co28,eo28⟩:=Kd.R_slice HO203.out
         (first|subst eo28|(injection eo28 with f1_ f2_ f3_;have f4_:=f1_.symm;have f5_:=f3_.symm;clear f1_ f2_ f3_;subst f4_;subst f5_))
         refine hK.out _ _ ⟨(blk_cell BK194.out 0).trans rfl,(blk_cell BK194.out 1).trans rfl,(blk_cell BK192.out 0).trans rfl,(blk_cell BK192.out 1).trans rfl,((HB.out.cell (World.block_lt_of_cell? w _ hw198_0)).trans hw198_0)⟩ (fun hHeld=>?_)
         clear hK K
         refine norm_ (a':=?_) ?_ ?_
         rotate_left
         ·show Act.put _ (some 32) _=_
          simp only [Act.put,List.setIfInBounds_toArray,List.set_cons_zero,List.set_cons_succ,i64_w,i32_w]
          rfl
         refine pure_ (i:=14) (N:=some 33) (v:=?_) (a':=?_) #[true,true,true,true,true,true,true,true,true,true,true,true,true,true,true,false] rfl rfl (any_of HT_.out (by kernel_rfl)) (fun _ _ _ h=>h) (Or.inl ⟨by rfl,?_⟩) ?_ ?_
         rotate_left
         ·intro w'
          go_simp
          with_reducible rfl
         rotate_left
         ·simp only [Act.put,List.setIfInBounds_toArray,List.set_cons_zero,List.set_cons_succ,i64_w,i32_w]
          rfl
         refine last_ (i:=15) (N:=none) #[true,true,true,true,true,true,true,true,true,true,true,true,true,true,true,true] rfl rfl (one_of HT_.out (by kernel_rfl)) (by decide) (fun K hK=>?_)
         have hs29:w27.cell? ⟨gb194,1,none⟩=some (.slice Ao20 x195001_1.length co20):=(blk_cell BK194.out 1).trans rfl
         have hfs29:=blk_frozen BK194.out 1
         have hns29_0:=NB192_194.out
         have hns29_1:=NB193_194.out
         have hms29_0:=NB194_192.out
         have hms29_1:=NB194_193.out
         refine skip_ (w1:=?_) (by rfl) rfl ?_ ?_
         rotate_left
         ·go_simp
          rfl
         refine hK.out _ _ ?_
         clear hK K
         refine done_ (done_of HT_.out (by kernel_rfl)) ?_
         try go_wp2
         go_roundg k1
         case measure=>have:=HK1.out;omega
         case rel=>exact ⟨(wrap64 (x4_1+1)),(y201),(.slice Ao28 y201.length co28),(by first|rfl|(simp;done)|(simp [*];done)),H',⟨by have:=HK1.out;omega⟩,⟨by (with_reducible repeat (first|apply rA_|apply rN_|apply rD_));exact Kd.R_mono (Kd.R_far (p:=⟨gb194,1,none⟩) (Kd.R_types HO203.out BK194.out (by decide)) (fun _ hk=>hk.2) (.slice Ao28 y201.length co28)) (fun _ hk=>trivial)⟩,⟨by (with_reducible repeat (first|refine blk_drewN ?_ _|refine blk_drew ?_|refine blk_alloc ?_ _));refine blk_far ?_ NB192_194.out _;(with_reducible repeat (first|refine blk_drewN ?_ _|refine blk_drew ?_|refine blk_alloc ?_ _));exact BK192.out⟩,⟨by (with_reducible repeat (first|refine blk_drewN ?_ _|refine blk_drew ?_|refine blk_alloc ?_ _));refine blk_far ?_ NB193_194.out _;(with_reducible repeat (first|refine blk_drewN ?_ _|refine blk_drew ?_|refine blk_alloc ?_ _));exact BK193.out⟩,⟨by (with_reducible repeat (first|refine blk_drewN ?_ _|refine blk_drew ?_|refine blk_alloc ?_ _));refine blk_put (cs:=#[.bool a0_0,.slice Ao20 x195001_1.length co20]) ?_ 1 _ rfl;(with_reducible repeat (first|refine blk_drewN ?_ _|refine blk_drew ?_|refine blk_alloc ?_ _));exact BK194.out⟩,⟨by repeat (first|(with_reducible first|exact HB.out|apply bA_|apply bN_|apply bD_|refine below_set ?_ GE192.out|refine below_set ?_ GE193.out|refine below_set ?_ GE194.out)|exact HB.out)⟩⟩
        ·rw [if_neg c16] at H
         exact absurd H (by simp)
       ·rw [if_neg c15] at H
        exact absurd H (by simp)
      ·rw [if_neg c14] at H
       exact absurd H (by simp)
     ·rw [if_neg c12] at H
      exact absurd H (by simp)
    ·rw [if_neg c11] at H
     have c11b0:decide (x4_1 < 6)=false:=decide_eq_false c11
     clear c11
     simp only [Option.some.injEq,Prod.mk.injEq] at H
     obtain ⟨rfl,rfl⟩:=H
     have hnb30:=NB192_193.out
     have hnc30:=NB193_192.out
     have hnb31:=NB192_194.out
     have hnc31:=NB194_192.out
     have hcz32_0:wr.cell? ⟨gb192,0,none⟩=some (.bool a0_0):=(blk_cell BK192.out 0).trans rfl
     have hcz32_1:wr.cell? ⟨gb192,1,none⟩=some (.slice A0_1 l0_1.length c0_1):=(blk_cell BK192.out 1).trans rfl
     have hfz32_0:=blk_frozen BK192.out 0
     have hfz32_1:=blk_frozen BK192.out 1
     have hnb33:=NB194_193.out
     have hnc33:=NB193_194.out
     have hcz34_0:wr.cell? ⟨gb194,0,none⟩=some (.bool a0_0):=(blk_cell BK194.out 0).trans rfl
     have hcz34_1:wr.cell? ⟨gb194,1,none⟩=some (u195001):=(blk_cell BK194.out 1).trans rfl
     have hfz34_0:=blk_frozen BK194.out 0
     have hfz34_1:=blk_frozen BK194.out 1
     have hcz35_0:wr.cell? ⟨gb193,0,none⟩=some (.bool false):=(blk_cell BK193.out 0).trans rfl
     have hcz35_1:wr.cell? ⟨gb193,1,none⟩=some (.slice none 0 0):=(blk_cell BK193.out 1).trans rfl
     have hfz35_0:=blk_frozen BK193.out 0
     have hfz35_1:=blk_frozen BK193.out 1
     obtain ⟨Ao36,co36,eo36⟩:=Kd.R_slice HO_195001.out
     subst eo36
     go_wp2
     refine bodyPost_ret (results_cell_row rfl _ _ gb193 38 #[.bool a0_0,.slice Ao36 x195001_1.length co36] (0,0) _ rfl (by (with_reducible repeat (first|refine blk_drewN ?_ _|refine blk_drew ?_|refine blk_alloc ?_ _));refine blk_put (cs:=#[.bool a0_0,.slice none 0 0]) ?_ 1 _ rfl;(with_reducible repeat (first|refine blk_drewN ?_ _|refine blk_drew ?_|refine blk_alloc ?_ _));refine blk_put (cs:=#[.bool false,.slice none 0 0]) ?_ 0 _ rfl;(with_reducible repeat (first|refine blk_drewN ?_ _|refine blk_drew ?_|refine blk_alloc ?_ _));exact BK193.out) Try.underlying38 rfl (by kernel_rfl)) rfl ?_
     exact ⟨_,by first|rfl|(simp [errW_none,errW_some] <;> rfl)|(simp [*,errW_none,errW_some] <;> rfl),by (with_reducible repeat (first|apply rA_|apply rN_|apply rD_));exact Kd.R_mono (Kd.R_far (p:=⟨gb193,1,none⟩) (Kd.R_far (p:=⟨gb193,0,none⟩) (Kd.R_types HO_195001.out BK193.out (by decide)) (fun _ hk=>hk.2) (.bool a0_0)) (fun _ hk=>hk.2) (.slice Ao36 x195001_1.length co36)) (fun _ hk=>trivial),by repeat (first|(with_reducible first|exact HB.out|apply bA_|apply bN_|apply bD_|refine below_set ?_ GE192.out|refine below_set ?_ GE193.out|refine below_set ?_ GE194.out)|exact HB.out)⟩
   ·rw [if_neg c10] at H
    have c10b0:decide (x4_1 < (l0_1.length:Int))=false:=decide_eq_false c10
    clear c10
    simp only [Option.some.injEq,Prod.mk.injEq] at H
    obtain ⟨rfl,rfl⟩:=H
    have hnb37:=NB192_193.out
    have hnc37:=NB193_192.out
    have hnb38:=NB192_194.out
    have hnc38:=NB194_192.out
    have hcz39_0:wr.cell? ⟨gb192,0,none⟩=some (.bool a0_0):=(blk_cell BK192.out 0).trans rfl
    have hcz39_1:wr.cell? ⟨gb192,1,none⟩=some (.slice A0_1 l0_1.length c0_1):=(blk_cell BK192.out 1).trans rfl
    have hfz39_0:=blk_frozen BK192.out 0
    have hfz39_1:=blk_frozen BK192.out 1
    have hnb40:=NB194_193.out
    have hnc40:=NB193_194.out
    have hcz41_0:wr.cell? ⟨gb194,0,none⟩=some (.bool a0_0):=(blk_cell BK194.out 0).trans rfl
    have hcz41_1:wr.cell? ⟨gb194,1,none⟩=some (u195001):=(blk_cell BK194.out 1).trans rfl
    have hfz41_0:=blk_frozen BK194.out 0
    have hfz41_1:=blk_frozen BK194.out 1
    have hcz42_0:wr.cell? ⟨gb193,0,none⟩=some (.bool false):=(blk_cell BK193.out 0).trans rfl
    have hcz42_1:wr.cell? ⟨gb193,1,none⟩=some (.slice none 0 0):=(blk_cell BK193.out 1).trans rfl
    have hfz42_0:=blk_frozen BK193.out 0
    have hfz42_1:=blk_frozen BK193.out 1
    obtain ⟨Ao43,co43,eo43⟩:=Kd.R_slice HO_195001.out
    subst eo43
    go_wp2
    refine bodyPost_ret (results_cell_row rfl _ _ gb193 38 #[.bool a0_0,.slice Ao43 x195001_1.length co43] (0,0) _ rfl (by (with_reducible repeat (first|refine blk_drewN ?_ _|refine blk_drew ?_|refine blk_alloc ?_ _));refine blk_put (cs:=#[.bool a0_0,.slice none 0 0]) ?_ 1 _ rfl;(with_reducible repeat (first|refine blk_drewN ?_ _|refine blk_drew ?_|refine blk_alloc ?_ _));refine blk_put (cs:=#[.bool false,.slice none 0 0]) ?_ 0 _ rfl;(with_reducible repeat (first|refine blk_drewN ?_ _|refine blk_drew ?_|refine blk_alloc ?_ _));exact BK193.out) Try.underlying38 rfl (by kernel_rfl)) rfl ?_
    exact ⟨_,by first|rfl|(simp [errW_none,errW_some] <;> rfl)|(simp [*,errW_none,errW_some] <;> rfl),by (with_reducible repeat (first|apply rA_|apply rN_|apply rD_));exact Kd.R_mono (Kd.R_far (p:=⟨gb193,1,none⟩) (Kd.R_far (p:=⟨gb193,0,none⟩) (Kd.R_types HO_195001.out BK193.out (by decide)) (fun _ hk=>hk.2) (.bool a0_0)) (fun _ hk=>hk.2) (.slice Ao43 x195001_1.length co43)) (fun _ hk=>trivial),by repeat (first|(with_reducible first|exact HB.out|apply bA_|apply bN_|apply bD_|refine below_set ?_ GE192.out|refine below_set ?_ GE193.out|refine below_set ?_ GE194.out)|exact HB.out)⟩
end Go.Proofs.Ytoihiehoolehiaa.PX
namespace Go.Proofs.Ytoihiehoolehiaa.PX
open Go.RowKit Go.Proofs.YtoihiehoolehiaaW.PrintWords Go.Proofs.YtoihiehoolehiaaW.PrintLast Go.Proofs.YtoihiehoolehiaaW.PrintMore
attribute [local go_sem] max2_int min2_int max_two min_two max_three min_three max_four min_four   
set_option linter.unusedVariables false
set_option linter.unusedSimpArgs false
def cadenceref3_Not.l0:Nat→Int→Bool→List ByteArray→Bool→List ByteArray→Option (Bool × List ByteArray)
 | 0,_,_,_,_,_=>none
 | k+1,x4,x205000,x205001,x207000,x207001=>if x4 < (x205001.length:Int) then (if 0≤x4 then ((cadenceref3_put.f k x207001 (rdOf ByteArray.empty x205001 x4)).bind fun t208=>(cadenceref3_Not.l0 k (wrap64 (x4+1)) x205000 x205001 x207000 t208)) else (none)) else (some (x207000,x207001))
def cadenceref3_Not.f (k:Nat) (a0_0:Bool) (l0_1:List ByteArray):Option (Bool × List ByteArray):=cadenceref3_Not.l0 k 0 a0_0 l0_1 (!a0_0) ([]:List ByteArray)
theorem cadenceref3_Not.mono_l:∀ k,(∀ y0 y1 y2 y3 y4,LeO (cadenceref3_Not.l0 k y0 y1 y2 y3 y4) (cadenceref3_Not.l0 (k+1) y0 y1 y2 y3 y4))
 | 0=>fun _ _ _ _ _ r h=>by simp [cadenceref3_Not.l0] at h
 | k+1=>by
  have ih0:=cadenceref3_Not.mono_l k
  ·intro y0 y1 y2 y3 y4
   unfold cadenceref3_Not.l0
   repeat' first
   | (with_reducible exact ih0 _ _ _ _ _)
   | (with_reducible exact cadenceref3_put.mono _ _ _)
   | (with_reducible exact LeO.refl _)
   | (with_reducible exact LeO.none _)
   | (with_reducible refine LeO.ite ?_ ?_)
   | (with_reducible refine LeO.bind ?_ (fun _=>?_))
   | exact ih0 _ _ _ _ _
   | exact cadenceref3_put.mono _ _ _
   | exact LeO.none _
   | refine LeO.ite ?_ ?_
   | refine LeO.bind ?_ (fun _=>?_)
theorem cadenceref3_Not.mono:∀ a0 a1 k,LeO (cadenceref3_Not.f k a0 a1) (cadenceref3_Not.f (k+1) a0 a1):=by
 intro a0 a1 k
 have ih0:=cadenceref3_Not.mono_l k
 unfold cadenceref3_Not.f
 repeat' first
   | (with_reducible exact ih0 _ _ _ _ _)
   | (with_reducible exact cadenceref3_put.mono _ _ _)
   | (with_reducible exact LeO.refl _)
   | (with_reducible exact LeO.none _)
   | (with_reducible refine LeO.ite ?_ ?_)
   | (with_reducible refine LeO.bind ?_ (fun _=>?_))
   | exact ih0 _ _ _ _ _
   | exact cadenceref3_put.mono _ _ _
   | exact LeO.none _
   | refine LeO.ite ?_ ?_
   | refine LeO.bind ?_ (fun _=>?_)
def cadenceref3_Not.T5:Bool × List (List Nat × List Nat):=(true,[([],[]),([0],[0]),([],[]),([2],[2]),([],[]),([3,4],[3,4]),([5],[5]),([1,6],[1,6]),([0,1,2,3,4,5,6,7],[]),([8,7,7,0,1,2,3,4,5,6,7],[7,8])])
def cadenceref3_Not.B5:List Nat:=[0,1,0,4,0,28,60,127,255,511]
theorem cadenceref3_Not.tab5:rtab .any (opsOf Try.f26 5)=cadenceref3_Not.T5:=by kernel_rfl
theorem cadenceref3_Not.bits5:waitsOk cadenceref3_Not.T5.2 cadenceref3_Not.B5=true:=by kernel_rfl
set_option maxHeartbeats 8000000 in
set_option maxRecDepth 100000 in
theorem cadenceref3_Not.calls (k:Nat) (a0_0:Bool) (A0_1:Option Addr) (c0_1:Nat) (l0_1:List ByteArray) (r1:Bool) (r2:List ByteArray) (w:World) (hr0_1:Kd.C Kd.string w A0_1 l0_1.length l0_1) (hc0_1:l0_1.length≤c0_1) (h:cadenceref3_Not.f k a0_0 l0_1=some (r1,r2)) :
  Calls Try.prog 26 #[.agg #[.bool a0_0,.slice A0_1 l0_1.length c0_1]] w fun e w'=>∃ v1_:Value,e=.returned (.agg #[.bool r1,v1_])∧Kd.R Kd.string 9 w' w.heap.size (fun _=>True) v1_ r2∧Below w.heap.size w w':=by
 have hu38:=Try.underlying38
 have HR0_1:=Aside0.mk hr0_1
 have HC0_1:=Aside0.mk hc0_1
 clear hr0_1 hc0_1
 have HB:=Aside0.mk (Below.refl w.heap.size w)
 have H:(cadenceref3_Not.l0 k 0 a0_0 l0_1 (!a0_0) ([]:List ByteArray))=some (r1,r2):=h
 clear h
 have H':=Aside0.mk H
 clear H
 go_enter Try.func26,Try.ntmps26
 go_wp2_with (first|((with_reducible refine gate_dst (N:=1) rfl ?_);refine box_event ?hg (N:=1) ?hd (cs:=#[.bool a0_0,.slice A0_1 l0_1.length c0_1]) (t:=38) ?hr ?_;(case hd=>rfl);(case hg=>rfl);(case hr=>first|(go_simp;done)|(go_simp;rfl));intro gb204 hg w2 hbox hb;have n0_:=Aside0.mk (below_step (by repeat (first|(with_reducible first|exact HB.out|apply bA_|apply bN_|apply bD_)|exact HB.out)) hb);have n1_:=Aside0.mk (hbox);have n2_:=Aside0.mk ((by rw [hg];exact (below_size (by repeat (first|(with_reducible first|exact HB.out|apply bA_|apply bN_|apply bD_)|exact HB.out))):w.heap.size≤gb204));have n3_:=Aside0.mk ((by rw [hg];exact (below_size (by repeat (first|(with_reducible first|exact HB.out|apply bA_|apply bN_|apply bD_)|exact HB.out))):w.heap.size≤gb204));clear HB;have HB:=n0_;have BK204:=n1_;have GW204:=n2_;have GE204:=n3_;clear n0_ n1_ n2_ n3_;clear hb hbox hg)|((with_reducible refine gate_dst (N:=2) rfl ?_);refine box_event ?hg (N:=2) ?hd (cs:=#[.bool false,.slice none 0 0]) (t:=38) ?hr ?_;(case hd=>rfl);(case hg=>rfl);(case hr=>first|(go_simp;done)|(go_simp;rfl));intro gb205 hg w3 hbox hb;have n0_:=Aside0.mk (blk_below (g:=gb204) (o:=.cells #[.bool a0_0,.slice A0_1 l0_1.length c0_1] 38 (0,0)) (by (with_reducible repeat (first|refine blk_drewN ?_ _|refine blk_drew ?_|refine blk_alloc ?_ _));exact BK204.out) hb);have n1_:=Aside0.mk (below_step (by repeat (first|(with_reducible first|exact HB.out|apply bA_|apply bN_|apply bD_|refine below_set ?_ GE204.out)|exact HB.out)) hb);have n2_:=Aside0.mk (hbox);have n3_:=Aside0.mk ((by rw [hg];exact (below_size (by repeat (first|(with_reducible first|exact HB.out|apply bA_|apply bN_|apply bD_|refine below_set ?_ GE204.out)|exact HB.out))):w.heap.size≤gb205));have n4_:=Aside0.mk ((by rw [hg];exact (below_size (by repeat (first|(with_reducible first|exact HB.out|apply bA_|apply bN_|apply bD_|refine below_set ?_ GE204.out)|exact HB.out))):w.heap.size≤gb205));have n5_:=Aside0.mk ((by rw [hg];exact Nat.ne_of_lt (blk_lt (g:=gb204) (o:=.cells #[.bool a0_0,.slice A0_1 l0_1.length c0_1] 38 (0,0)) (by (with_reducible repeat (first|refine blk_drewN ?_ _|refine blk_drew ?_|refine blk_alloc ?_ _));exact BK204.out)):gb204≠gb205));have n6_:=Aside0.mk ((by rw [hg];exact Nat.ne_of_gt (blk_lt (g:=gb204) (o:=.cells #[.bool a0_0,.slice A0_1 l0_1.length c0_1] 38 (0,0)) (by (with_reducible repeat (first|refine blk_drewN ?_ _|refine blk_drew ?_|refine blk_alloc ?_ _));exact BK204.out)):gb205≠gb204));clear BK204;clear HB;have BK204:=n0_;have HB:=n1_;have BK205:=n2_;have GW205:=n3_;have GE205:=n4_;have NB204_205:=n5_;have NB205_204:=n6_;clear n0_ n1_ n2_ n3_ n4_ n5_ n6_;clear hb hbox hg;have hnb4:=NB204_205.out;have hnc4:=NB205_204.out;have hcz5_0:w3.cell? ⟨gb204,0,none⟩=some (.bool a0_0):=(blk_cell BK204.out 0).trans rfl;have hcz5_1:w3.cell? ⟨gb204,1,none⟩=some (.slice A0_1 l0_1.length c0_1):=(blk_cell BK204.out 1).trans rfl;have hfz5_0:=blk_frozen BK204.out 0;have hfz5_1:=blk_frozen BK204.out 1)|((with_reducible refine gate_dst (N:=3) rfl ?_);refine box_event ?hg (N:=3) ?hd (cs:=#[.bool false,.slice none 0 0]) (t:=38) ?hr ?_;(case hd=>rfl);(case hg=>rfl);(case hr=>first|(go_simp;done)|(go_simp;rfl));intro gb206 hg w6 hbox hb;have n0_:=Aside0.mk (blk_below (g:=gb204) (o:=.cells #[.bool a0_0,.slice A0_1 l0_1.length c0_1] 38 (0,0)) (by (with_reducible repeat (first|refine blk_drewN ?_ _|refine blk_drew ?_|refine blk_alloc ?_ _));exact BK204.out) hb);have n1_:=Aside0.mk (blk_below (g:=gb205) (o:=.cells #[.bool false,.slice none 0 0] 38 (0,0)) (by (with_reducible repeat (first|refine blk_drewN ?_ _|refine blk_drew ?_|refine blk_alloc ?_ _));exact BK205.out) hb);have n2_:=Aside0.mk (below_step (by repeat (first|(with_reducible first|exact HB.out|apply bA_|apply bN_|apply bD_|refine below_set ?_ GE204.out|refine below_set ?_ GE205.out)|exact HB.out)) hb);have n3_:=Aside0.mk (hbox);have n4_:=Aside0.mk ((by rw [hg];exact (below_size (by repeat (first|(with_reducible first|exact HB.out|apply bA_|apply bN_|apply bD_|refine below_set ?_ GE204.out|refine below_set ?_ GE205.out)|exact HB.out))):w.heap.size≤gb206));have n5_:=Aside0.mk ((by rw [hg];exact (below_size (by repeat (first|(with_reducible first|exact HB.out|apply bA_|apply bN_|apply bD_|refine below_set ?_ GE204.out|refine below_set ?_ GE205.out)|exact HB.out))):w.heap.size≤gb206));have n6_:=Aside0.mk ((by rw [hg];exact Nat.ne_of_lt (blk_lt (g:=gb204) (o:=.cells #[.bool a0_0,.slice A0_1 l0_1.length c0_1] 38 (0,0)) (by (with_reducible repeat (first|refine blk_drewN ?_ _|refine blk_drew ?_|refine blk_alloc ?_ _));exact BK204.out)):gb204≠gb206));have n7_:=Aside0.mk ((by rw [hg];exact Nat.ne_of_gt (blk_lt (g:=gb204) (o:=.cells #[.bool a0_0,.slice A0_1 l0_1.length c0_1] 38 (0,0)) (by (with_reducible repeat (first|refine blk_drewN ?_ _|refine blk_drew ?_|refine blk_alloc ?_ _));exact BK204.out)):gb206≠gb204));have n8_:=Aside0.mk ((by rw [hg];exact Nat.ne_of_lt (blk_lt (g:=gb205) (o:=.cells #[.bool false,.slice none 0 0] 38 (0,0)) (by (with_reducible repeat (first|refine blk_drewN ?_ _|refine blk_drew ?_|refine blk_alloc ?_ _));exact BK205.out)):gb205≠gb206));have n9_:=Aside0.mk ((by rw [hg];exact Nat.ne_of_gt (blk_lt (g:=gb205) (o:=.cells #[.bool false,.slice none 0 0] 38 (0,0)) (by (with_reducible repeat (first|refine blk_drewN ?_ _|refine blk_drew ?_|refine blk_alloc ?_ _));exact BK205.out)):gb206≠gb205));clear BK204;clear BK205;clear HB;have BK204:=n0_;have BK205:=n1_;have HB:=n2_;have BK206:=n3_;have GW206:=n4_;have GE206:=n5_;have NB204_206:=n6_;have NB206_204:=n7_;have NB205_206:=n8_;have NB206_205:=n9_;clear n0_ n1_ n2_ n3_ n4_ n5_ n6_ n7_ n8_ n9_;clear hb hbox hg;have hnb7:=NB206_204.out;have hnc7:=NB204_206.out;have hnb8:=NB206_205.out;have hnc8:=NB205_206.out;have hcz9_0:w6.cell? ⟨gb206,0,none⟩=some (.bool false):=(blk_cell BK206.out 0).trans rfl;have hcz9_1:w6.cell? ⟨gb206,1,none⟩=some (.slice none 0 0):=(blk_cell BK206.out 1).trans rfl;have hfz9_0:=blk_frozen BK206.out 0;have hfz9_1:=blk_frozen BK206.out 1))
 go_loopg [4] k (fun kq v4 w'=>∃ (x4_1:Int) (x207001_1:List ByteArray) (u207001:Value),v4=.int .i64 x4_1∧Aside0 (cadenceref3_Not.l0 kq x4_1 a0_0 l0_1 (!a0_0) x207001_1=some (r1,r2))∧Aside0 (kq≤k)∧Aside0 (Kd.R Kd.string 9 w' w.heap.size (fun _=>True) u207001 x207001_1)∧Aside0 (w'.heap[gb204]? = some (.cells #[.bool a0_0,(.slice A0_1 l0_1.length c0_1)] 38 (0,0)))∧Aside0 (w'.heap[gb205]? = some (.cells #[.bool false,(.slice none 0 0)] 38 (0,0)))∧Aside0 (w'.heap[gb206]? = some (.cells #[.bool (!a0_0),u207001] 38 (0,0)))∧Aside0 (Below w.heap.size w w'))
 case atStart=>exact ⟨(0),(([]:List ByteArray)),(.slice none 0 0),(by first|rfl|(simp;done)|(simp [*];done)),H',⟨Nat.le_refl _⟩,⟨by first|exact Kd.R_nil _ _ _ _ _|exact Kd.N_nil _ _ _ _ _|exact Kd.V_nil _ _ _ _ _|exact Kd.Q_nil _ _ _ _ _|exact Kd.S_nil _ _ _ _ _⟩,⟨by (with_reducible repeat (first|refine blk_drewN ?_ _|refine blk_drew ?_|refine blk_alloc ?_ _));refine blk_far ?_ NB204_206.out _;(with_reducible repeat (first|refine blk_drewN ?_ _|refine blk_drew ?_|refine blk_alloc ?_ _));refine blk_far ?_ NB204_206.out _;(with_reducible repeat (first|refine blk_drewN ?_ _|refine blk_drew ?_|refine blk_alloc ?_ _));exact BK204.out⟩,⟨by (with_reducible repeat (first|refine blk_drewN ?_ _|refine blk_drew ?_|refine blk_alloc ?_ _));refine blk_far ?_ NB205_206.out _;(with_reducible repeat (first|refine blk_drewN ?_ _|refine blk_drew ?_|refine blk_alloc ?_ _));refine blk_far ?_ NB205_206.out _;(with_reducible repeat (first|refine blk_drewN ?_ _|refine blk_drew ?_|refine blk_alloc ?_ _));exact BK205.out⟩,⟨by (with_reducible repeat (first|refine blk_drewN ?_ _|refine blk_drew ?_|refine blk_alloc ?_ _));refine blk_put (cs:=#[.bool (!a0_0),.slice none 0 0]) ?_ 1 _ rfl;(with_reducible repeat (first|refine blk_drewN ?_ _|refine blk_drew ?_|refine blk_alloc ?_ _));refine blk_put (cs:=#[.bool false,.slice none 0 0]) ?_ 0 _ rfl;(with_reducible repeat (first|refine blk_drewN ?_ _|refine blk_drew ?_|refine blk_alloc ?_ _));exact BK206.out⟩,⟨by repeat (first|(with_reducible first|exact HB.out|apply bA_|apply bN_|apply bD_|refine below_set ?_ GE204.out|refine below_set ?_ GE205.out|refine below_set ?_ GE206.out)|exact HB.out)⟩⟩
 case round =>
  clear H'
  try clear c2
  try clear p2
  try clear c4
  try clear c7
  try clear c8
  try clear hcz5_0
  try clear hcz5_1
  try clear hcz9_0
  try clear hcz9_1
  try clear hfz5_0
  try clear hfz5_1
  try clear hfz9_0
  try clear hfz9_1
  obtain ⟨x4_1,x207001_1,u207001,rfl,HA,HK1,HO_207001,BK204,BK205,BK206,HB⟩:=hrel
  cases gk with
  | zero=>exact absurd HA.out (by simp [cadenceref3_Not.l0])
  | succ k1 =>
   have H:=HA.out
   clear HA
   simp only [cadenceref3_Not.l0] at H
   by_cases c10:x4_1 < (l0_1.length:Int)
   ·rw [if_pos c10] at H
    have c10b0:decide (x4_1 < (l0_1.length:Int))=true:=decide_eq_true c10
    clear c10
    by_cases c11:0≤x4_1
    ·rw [if_pos c11] at H
     have c11b0:decide (0≤x4_1)=true:=decide_eq_true c11
     clear c11
     replace H:=Option.bind_eq_some_iff.mp H
     obtain ⟨t208,A120,H⟩:=H
     replace H:(cadenceref3_Not.l0 k1 (wrap64 (x4_1+1)) a0_0 l0_1 (!a0_0) t208)=some (r1,r2):=H
     have A12:=Aside0.mk A120
     clear A120
     have H':=Aside0.mk H
     clear H
     have hnb13:=NB204_205.out
     have hnc13:=NB205_204.out
     have hnb14:=NB204_206.out
     have hnc14:=NB206_204.out
     have hcz15_0:wr.cell? ⟨gb204,0,none⟩=some (.bool a0_0):=(blk_cell BK204.out 0).trans rfl
     have hcz15_1:wr.cell? ⟨gb204,1,none⟩=some (.slice A0_1 l0_1.length c0_1):=(blk_cell BK204.out 1).trans rfl
     have hfz15_0:=blk_frozen BK204.out 0
     have hfz15_1:=blk_frozen BK204.out 1
     try go_wp2
     have n0_:=Aside0.mk (rD_ HO_207001.out)
     have n1_:=Aside0.mk (blk_drew BK204.out)
     have n2_:=Aside0.mk (blk_drew BK205.out)
     have n3_:=Aside0.mk (blk_drew BK206.out)
     have n4_:=Aside0.mk (bD_ HB.out)
     clear HO_207001
     clear BK204
     clear BK205
     clear BK206
     clear HB
     have HO_207001:=n0_
     have BK204:=n1_
     have BK205:=n2_
     have BK206:=n3_
     have HB:=n4_
     clear n0_ n1_ n2_ n3_ n4_
     have p207:0≤(x4_1:Int):=of_decide_eq_true (by first|(with_reducible assumption)|assumption)
     have q207:x4_1 < (l0_1.length:Int):=of_decide_eq_true (by first|(with_reducible assumption)|assumption)
     obtain ⟨ad207,e207,hx207_0⟩:=Kd.at_string HR0_1.out x4_1 p207 q207
     have hw207_0:=hx207_0
     cases e207
     replace hx207_0:=(HB.out.cell (World.block_lt_of_cell? w _ hx207_0)).trans hx207_0
     replace p207:=eq_true p207
     replace q207:=eq_true q207
     obtain ⟨Ao17,co17,eo17⟩:=Kd.R_slice HO_207001.out
     (first|subst eo17|(injection eo17 with f1_ f2_ f3_;have f4_:=f1_.symm;have f5_:=f3_.symm;clear f1_ f2_ f3_;subst f4_;subst f5_))
     refine start_ (n:=10) (S:=fun w'=>w'.cell? ⟨gb206,0,none⟩=some (.bool (!a0_0))∧w'.cell? ⟨gb206,1,none⟩=some (.slice Ao17 x207001_1.length co17)∧w'.cell? ⟨gb204,0,none⟩=some (.bool a0_0)∧w'.cell? ⟨gb204,1,none⟩=some (.slice (some ad207) l0_1.length c0_1)∧w'.cell? (ad207.add (x4_1).toNat)=some (.string (rdOf ByteArray.empty l0_1 x4_1))) (ds:=[9]) #[false,false,false,false,false,false,false,false,false,false] (by kernel_rfl) rfl rfl ⟨(blk_cell BK206.out 0).trans rfl,(blk_cell BK206.out 1).trans rfl,(blk_cell BK204.out 0).trans rfl,(blk_cell BK204.out 1).trans rfl,((HB.out.cell (World.block_lt_of_cell? w _ hw207_0)).trans hw207_0)⟩ (fun hHeld=>?_);refine with_tabW cadenceref3_Not.tab5 cadenceref3_Not.bits5 (fun HT_ HW_=>?_)
     generalize wr.drew=w16 at HO_207001 BK204 BK205 BK206 HB hx207_0 hHeld ⊢
     refine pure_ (i:=0) (N:=some 16) (v:=?_) (a':=?_) #[true,false,false,false,false,false,false,false,false,false] rfl rfl (any_of HT_.out (by kernel_rfl)) (fun _ _ _ h=>h) (Or.inl ⟨by rfl,?_⟩) ?_ ?_
     rotate_left
     ·intro w'
      go_simp
      with_reducible rfl
     rotate_left
     ·simp only [Act.put,List.setIfInBounds_toArray,List.set_cons_zero,List.set_cons_succ,i64_w,i32_w]
      rfl
     refine pure_ (i:=2) (N:=some 18) (v:=?_) (a':=?_) #[true,false,true,false,false,false,false,false,false,false] rfl rfl (any_of HT_.out (by kernel_rfl)) (fun _ _ _ h=>h) (Or.inl ⟨by rfl,?_⟩) ?_ ?_
     rotate_left
     ·intro w'
      go_simp
      with_reducible rfl
     rotate_left
     ·simp only [Act.put,List.setIfInBounds_toArray,List.set_cons_zero,List.set_cons_succ,i64_w,i32_w]
      rfl
     refine pure_ (i:=4) (N:=some 20) (v:=?_) (a':=?_) #[true,false,true,false,true,false,false,false,false,false] rfl rfl (any_of HT_.out (by kernel_rfl)) (fun _ _ _ h=>h) (Or.inl ⟨by rfl,?_⟩) ?_ ?_
     rotate_left
     ·intro w'
      go_simp
      with_reducible rfl
     rotate_left
     ·simp only [Act.put,List.setIfInBounds_toArray,List.set_cons_zero,List.set_cons_succ,i64_w,i32_w]
      rfl
     refine take_ (i:=1) (N:=some 17) (v:=?_) (a':=?_) #[true,true,true,false,true,false,false,false,false,false] rfl rfl (take_ofW HT_.out HW_.out (by kernel_rfl)) (fun _ _ _ h=>h) (Or.inl ⟨by rfl,?_⟩) hHeld ?_ ?_
     rotate_left
     ·rintro w' ⟨s0,s1,s2,s3,s4⟩
      go_simp
      with_reducible rfl
     rotate_left
     ·simp only [Act.put,List.setIfInBounds_toArray,List.set_cons_zero,List.set_cons_succ,i64_w,i32_w]
      rfl
     refine take_ (i:=3) (N:=some 19) (v:=?_) (a':=?_) #[true,true,true,true,true,false,false,false,false,false] rfl rfl (take_ofW HT_.out HW_.out (by kernel_rfl)) (fun _ _ _ h=>h) (Or.inl ⟨by rfl,?_⟩) hHeld ?_ ?_
     rotate_left
     ·rintro w' ⟨s0,s1,s2,s3,s4⟩
      go_simp
      with_reducible rfl
     rotate_left
     ·simp only [Act.put,List.setIfInBounds_toArray,List.set_cons_zero,List.set_cons_succ,i64_w,i32_w]
      rfl
     refine pure_ (i:=5) (N:=some 21) (v:=?_) (a':=?_) #[true,true,true,true,true,true,false,false,false,false] rfl rfl (any_of HT_.out (by kernel_rfl)) (fun _ _ _ h=>h) (Or.inl ⟨by rfl,?_⟩) ?_ ?_
     rotate_left
     ·intro w'
      go_simp
      with_reducible rfl
     rotate_left
     ·simp only [Act.put,List.setIfInBounds_toArray,List.set_cons_zero,List.set_cons_succ,i64_w,i32_w]
      rfl
     refine take_ (i:=6) (N:=some 22) (v:=?_) (a':=?_) #[true,true,true,true,true,true,true,false,false,false] rfl rfl (take_ofW HT_.out HW_.out (by kernel_rfl)) (fun _ _ _ h=>h) (Or.inl ⟨by rfl,?_⟩) hHeld ?_ ?_
     rotate_left
     ·rintro w' ⟨s0,s1,s2,s3,s4⟩
      go_simp
      with_reducible rfl
     rotate_left
     ·simp only [Act.put,List.setIfInBounds_toArray,List.set_cons_zero,List.set_cons_succ,i64_w,i32_w]
      rfl
     refine one_ (i:=7) (N:=some 23) #[true,true,true,true,true,true,true,true,false,false] rfl rfl (one_of HT_.out (by kernel_rfl)) (by decide) (fun K hK=>?_)
     refine goes_ Try.func45 (by kernel_rfl) rfl #[.slice Ao17 x207001_1.length co17,.string (rdOf ByteArray.empty l0_1 x4_1)] (by rfl) rfl rfl (by (try simp only [List.map_toArray,List.map_cons,List.map_nil]);first|done|rfl|(simp only [List.length_drop,List.length_take];rfl)) ?_
     with_reducible refine (cadenceref3_put.calls k1 (fun k_=>some k_=(.slice Ao17 x207001_1.length co17:Value).ownBlock) (.slice Ao17 x207001_1.length co17) x207001_1 (rdOf ByteArray.empty l0_1 x4_1) t208 w _ ?side1 ?side2 A12.out).mono ?_
     (case side1=>repeat (first|(with_reducible first|exact HB.out|apply bA_|apply bN_|apply bD_|refine below_set ?_ GE204.out|refine below_set ?_ GE205.out|refine below_set ?_ GE206.out)|exact HB.out))
     (case side2=>exact Kd.R_tight rfl HO_207001.out)
     rintro e w18 ⟨v209,rfl,ho0,hb,hkp⟩
     refine ⟨_,rfl,?_⟩
     have n0_:=Aside0.mk (blk_kept (by (with_reducible repeat (first|refine blk_drewN ?_ _|refine blk_drew ?_|refine blk_alloc ?_ _));exact BK204.out) hkp (fun hs_=>(fun e_=>(Kd.R_ne HO_207001.out BK204.out (by decide)) e_) hs_))
     have n1_:=Aside0.mk (blk_kept (by (with_reducible repeat (first|refine blk_drewN ?_ _|refine blk_drew ?_|refine blk_alloc ?_ _));exact BK205.out) hkp (fun hs_=>(fun e_=>(Kd.R_ne HO_207001.out BK205.out (by decide)) e_) hs_))
     have n2_:=Aside0.mk (blk_kept (by (with_reducible repeat (first|refine blk_drewN ?_ _|refine blk_drew ?_|refine blk_alloc ?_ _));exact BK206.out) hkp (fun hs_=>(fun e_=>(Kd.R_ne HO_207001.out BK206.out (by decide)) e_) hs_))
     have n3_:=Aside0.mk (Kd.R_mono (ok':=fun k_=>True) ho0 (fun k_ hk_=>trivial))
     have n4_:=Aside0.mk (hb)
     clear BK204
     clear BK205
     clear BK206
     clear HB
     clear HO_207001
     have BK204:=n0_
     have BK205:=n1_
     have BK206:=n2_
     have HO210:=n3_
     have HB:=n4_
     clear n0_ n1_ n2_ n3_ n4_
     (try clear hb)
     (try clear hkp)
     (try clear ho0)
     obtain ⟨Ao19,co19,eo19⟩:=Kd.R_slice HO210.out
     (first|subst eo19|(injection eo19 with f1_ f2_ f3_;have f4_:=f1_.symm;have f5_:=f3_.symm;clear f1_ f2_ f3_;subst f4_;subst f5_))
     refine hK.out _ _ ⟨(blk_cell BK206.out 0).trans rfl,(blk_cell BK206.out 1).trans rfl,(blk_cell BK204.out 0).trans rfl,(blk_cell BK204.out 1).trans rfl,((HB.out.cell (World.block_lt_of_cell? w _ hw207_0)).trans hw207_0)⟩ (fun hHeld=>?_)
     clear hK K
     refine norm_ (a':=?_) ?_ ?_
     rotate_left
     ·show Act.put _ (some 23) _=_
      simp only [Act.put,List.setIfInBounds_toArray,List.set_cons_zero,List.set_cons_succ,i64_w,i32_w]
      rfl
     refine pure_ (i:=8) (N:=some 24) (v:=?_) (a':=?_) #[true,true,true,true,true,true,true,true,true,false] rfl rfl (any_of HT_.out (by kernel_rfl)) (fun _ _ _ h=>h) (Or.inl ⟨by rfl,?_⟩) ?_ ?_
     rotate_left
     ·intro w'
      go_simp
      with_reducible rfl
     rotate_left
     ·simp only [Act.put,List.setIfInBounds_toArray,List.set_cons_zero,List.set_cons_succ,i64_w,i32_w]
      rfl
     refine last_ (i:=9) (N:=none) #[true,true,true,true,true,true,true,true,true,true] rfl rfl (one_of HT_.out (by kernel_rfl)) (by decide) (fun K hK=>?_)
     have hs20:w18.cell? ⟨gb206,1,none⟩=some (.slice Ao17 x207001_1.length co17):=(blk_cell BK206.out 1).trans rfl
     have hfs20:=blk_frozen BK206.out 1
     have hns20_0:=NB204_206.out
     have hns20_1:=NB205_206.out
     have hms20_0:=NB206_204.out
     have hms20_1:=NB206_205.out
     refine skip_ (w1:=?_) (by rfl) rfl ?_ ?_
     rotate_left
     ·go_simp
      rfl
     refine hK.out _ _ ?_
     clear hK K
     refine done_ (done_of HT_.out (by kernel_rfl)) ?_
     try go_wp2
     go_roundg k1
     case measure=>have:=HK1.out;omega
     case rel=>exact ⟨(wrap64 (x4_1+1)),(t208),(.slice Ao19 t208.length co19),(by first|rfl|(simp;done)|(simp [*];done)),H',⟨by have:=HK1.out;omega⟩,⟨by (with_reducible repeat (first|apply rA_|apply rN_|apply rD_));exact Kd.R_mono (Kd.R_far (p:=⟨gb206,1,none⟩) (Kd.R_types HO210.out BK206.out (by decide)) (fun _ hk=>hk.2) (.slice Ao19 t208.length co19)) (fun _ hk=>trivial)⟩,⟨by (with_reducible repeat (first|refine blk_drewN ?_ _|refine blk_drew ?_|refine blk_alloc ?_ _));refine blk_far ?_ NB204_206.out _;(with_reducible repeat (first|refine blk_drewN ?_ _|refine blk_drew ?_|refine blk_alloc ?_ _));exact BK204.out⟩,⟨by (with_reducible repeat (first|refine blk_drewN ?_ _|refine blk_drew ?_|refine blk_alloc ?_ _));refine blk_far ?_ NB205_206.out _;(with_reducible repeat (first|refine blk_drewN ?_ _|refine blk_drew ?_|refine blk_alloc ?_ _));exact BK205.out⟩,⟨by (with_reducible repeat (first|refine blk_drewN ?_ _|refine blk_drew ?_|refine blk_alloc ?_ _));refine blk_put (cs:=#[.bool (!a0_0),.slice Ao17 x207001_1.length co17]) ?_ 1 _ rfl;(with_reducible repeat (first|refine blk_drewN ?_ _|refine blk_drew ?_|refine blk_alloc ?_ _));exact BK206.out⟩,⟨by repeat (first|(with_reducible first|exact HB.out|apply bA_|apply bN_|apply bD_|refine below_set ?_ GE204.out|refine below_set ?_ GE205.out|refine below_set ?_ GE206.out)|exact HB.out)⟩⟩
    ·rw [if_neg c11] at H
     exact absurd H (by simp)
   ·rw [if_neg c10] at H
    have c10b0:decide (x4_1 < (l0_1.length:Int))=false:=decide_eq_false c10
    clear c10
    simp only [Option.some.injEq,Prod.mk.injEq] at H
    obtain ⟨rfl,rfl⟩:=H
    have hnb21:=NB204_205.out
    have hnc21:=NB205_204.out
    have hnb22:=NB204_206.out
    have hnc22:=NB206_204.out
    have hcz23_0:wr.cell? ⟨gb204,0,none⟩=some (.bool a0_0):=(blk_cell BK204.out 0).trans rfl
    have hcz23_1:wr.cell? ⟨gb204,1,none⟩=some (.slice A0_1 l0_1.length c0_1):=(blk_cell BK204.out 1).trans rfl
    have hfz23_0:=blk_frozen BK204.out 0
    have hfz23_1:=blk_frozen BK204.out 1
    have hnb24:=NB206_205.out
    have hnc24:=NB205_206.out
    have hcz25_0:wr.cell? ⟨gb206,0,none⟩=some (.bool (!a0_0)):=(blk_cell BK206.out 0).trans rfl
    have hcz25_1:wr.cell? ⟨gb206,1,none⟩=some (u207001):=(blk_cell BK206.out 1).trans rfl
    have hfz25_0:=blk_frozen BK206.out 0
    have hfz25_1:=blk_frozen BK206.out 1
    have hcz26_0:wr.cell? ⟨gb205,0,none⟩=some (.bool false):=(blk_cell BK205.out 0).trans rfl
    have hcz26_1:wr.cell? ⟨gb205,1,none⟩=some (.slice none 0 0):=(blk_cell BK205.out 1).trans rfl
    have hfz26_0:=blk_frozen BK205.out 0
    have hfz26_1:=blk_frozen BK205.out 1
    obtain ⟨Ao27,co27,eo27⟩:=Kd.R_slice HO_207001.out
    subst eo27
    go_wp2
    refine bodyPost_ret (results_cell_row rfl _ _ gb205 38 #[.bool (!a0_0),.slice Ao27 x207001_1.length co27] (0,0) _ rfl (by (with_reducible repeat (first|refine blk_drewN ?_ _|refine blk_drew ?_|refine blk_alloc ?_ _));refine blk_put (cs:=#[.bool (!a0_0),.slice none 0 0]) ?_ 1 _ rfl;(with_reducible repeat (first|refine blk_drewN ?_ _|refine blk_drew ?_|refine blk_alloc ?_ _));refine blk_put (cs:=#[.bool false,.slice none 0 0]) ?_ 0 _ rfl;(with_reducible repeat (first|refine blk_drewN ?_ _|refine blk_drew ?_|refine blk_alloc ?_ _));exact BK205.out) Try.underlying38 rfl (by kernel_rfl)) rfl ?_
    exact ⟨_,by first|rfl|(simp [errW_none,errW_some] <;> rfl)|(simp [*,errW_none,errW_some] <;> rfl),by (with_reducible repeat (first|apply rA_|apply rN_|apply rD_));exact Kd.R_mono (Kd.R_far (p:=⟨gb205,1,none⟩) (Kd.R_far (p:=⟨gb205,0,none⟩) (Kd.R_types HO_207001.out BK205.out (by decide)) (fun _ hk=>hk.2) (.bool (!a0_0))) (fun _ hk=>hk.2) (.slice Ao27 x207001_1.length co27)) (fun _ hk=>trivial),by repeat (first|(with_reducible first|exact HB.out|apply bA_|apply bN_|apply bD_|refine below_set ?_ GE204.out|refine below_set ?_ GE205.out|refine below_set ?_ GE206.out)|exact HB.out)⟩
end Go.Proofs.Ytoihiehoolehiaa.PX
