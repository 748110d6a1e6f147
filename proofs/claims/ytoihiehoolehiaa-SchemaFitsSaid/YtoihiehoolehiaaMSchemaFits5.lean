/-
  The statement of 'SchemaFits': the Go function returns true at every input, and its arguments read as before.
  Conditions: none.
-/
import Derived.Test.YtoihiehoolehiaaMSchemaFits1
import Derived.Test.YtoihiehoolehiaaMSchemaFits4
import Derived.Test.YtoihiehoolehiaaRows
import Derived.WalkKit
import Derived.ProofKit
import Derived.OpenShut
import Derived.ShutString
import Derived.ChangeOld
import Derived.Below
import Derived.SizedLaws
namespace Go.Proofs.Ytoihiehoolehiaa.PX
open Go.RowKit Go.Proofs.YtoihiehoolehiaaW.PrintWords Go.Proofs.YtoihiehoolehiaaW.PrintLast Go.Proofs.YtoihiehoolehiaaW.PrintMore
attribute [local go_sem] max2_int min2_int max_two min_two max_three min_three max_four min_four   
set_option linter.unusedVariables false
set_option linter.unusedSimpArgs false
mutual
def cadenceref4_Level.j0:Nat→List (S33)→Int→List (S53)→Bool→Option (Bool)
 | 0,_,_,_,_=>none
 | k+1,x0,x1,x2,x18=>if x18=true then (some false) else (if 0≤x1 then (if x1 < (x0.length:Int) then (cadenceref4_Level.l0 k x0 x1 x2 0 ((rd_T33 x0 x1).f0) ((rd_T33 x0 x1).f1) ((rd_T33 x0 x1).f2)) else (none)) else (none))
def cadenceref4_Level.l0:Nat→List (S33)→Int→List (S53)→Int→List (S40)→Bool→Bool→Option (Bool)
 | 0,_,_,_,_,_,_,_=>none
 | k+1,x0,x1,x2,x8,x319000,x319001,x319002=>if x8 < (x2.length:Int) then (if 0≤x8 then ((cadenceref4_To.f k x0 x1 ((rd_T53 x2 x8).f0)).bind fun t320=>(if t320 < 0 then (some false) else (cadenceref4_Level.l0 k x0 x1 x2 (wrap64 (x8+1)) x319000 x319001 x319002))) else (none)) else (cadenceref4_Level.l1 k x2 0 x319000 x319001 x319002)
def cadenceref4_Level.l1:Nat→List (S53)→Int→List (S40)→Bool→Bool→Option (Bool)
 | 0,_,_,_,_,_=>none
 | k+1,x2,x9,x319000,x319001,x319002=>if x9 < (x319000.length:Int) then (cadenceref4_Level.l2 k x2 x9 0 x319000 x319001 x319002) else (if x319001=true then (if (x2.length:Int)=1 then (if x319002=true then (some (decide ((x2.length:Int) > 0))) else (some true)) else (some false)) else (if x319002=true then (some (decide ((x2.length:Int) > 0))) else (some true)))
def cadenceref4_Level.l2:Nat→List (S53)→Int→Int→List (S40)→Bool→Bool→Option (Bool)
 | 0,_,_,_,_,_,_=>none
 | k+1,x2,x9,x10,x319000,x319001,x319002=>if 0≤x9 then (if x9 < (x319000.length:Int) then (if x10 < (((rd_T40 x319000 x9).f0.f1).length:Int) then (cadenceref4_Level.j4 k x2 x9 x10 ((rd_T40 x319000 x9).f2) x319000 x319001 x319002) else (cadenceref4_Level.j4 k x2 x9 x10 false x319000 x319001 x319002)) else (none)) else (none)
def cadenceref4_Level.j4:Nat→List (S53)→Int→Int→Bool→List (S40)→Bool→Bool→Option (Bool)
 | 0,_,_,_,_,_,_,_=>none
 | k+1,x2,x9,x10,x62,x319000,x319001,x319002=>if x62=true then (if 0≤x9 then (if x9 < (x319000.length:Int) then (if 0≤x10 then (if x10 < (((rd_T40 x319000 x9).f0.f1).length:Int) then ((cadenceref4_has.f k x2 (rdOf ByteArray.empty ((rd_T40 x319000 x9).f0.f1) x10)).bind fun t325=>(if t325=true then (cadenceref4_Level.l2 k x2 x9 (wrap64 (x10+1)) x319000 x319001 x319002) else (some false))) else (none)) else (none)) else (none)) else (none)) else (cadenceref4_Level.l1 k x2 (wrap64 (x9+1)) x319000 x319001 x319002)
end
def cadenceref4_Level.f (k:Nat) (l0:List (S33)) (a1:Int) (l2:List (S53)):Option (Bool):=if a1 < 0 then (cadenceref4_Level.j0 k l0 a1 l2 true) else (cadenceref4_Level.j0 k l0 a1 l2 (decide (a1 ≥ (l0.length:Int))))
theorem cadenceref4_Level.mono_l:∀ k,(∀ y0 y1 y2 y3,LeO (cadenceref4_Level.j0 k y0 y1 y2 y3) (cadenceref4_Level.j0 (k+1) y0 y1 y2 y3))∧(∀ y0 y1 y2 y3 y4 y5 y6,LeO (cadenceref4_Level.l0 k y0 y1 y2 y3 y4 y5 y6) (cadenceref4_Level.l0 (k+1) y0 y1 y2 y3 y4 y5 y6))∧(∀ y0 y1 y2 y3 y4,LeO (cadenceref4_Level.l1 k y0 y1 y2 y3 y4) (cadenceref4_Level.l1 (k+1) y0 y1 y2 y3 y4))∧(∀ y0 y1 y2 y3 y4 y5,LeO (cadenceref4_Level.l2 k y0 y1 y2 y3 y4 y5) (cadenceref4_Level.l2 (k+1) y0 y1 y2 y3 y4 y5))∧(∀ y0 y1 y2 y3 y4 y5 y6,LeO (cadenceref4_Level.j4 k y0 y1 y2 y3 y4 y5 y6) (cadenceref4_Level.j4 (k+1) y0 y1 y2 y3 y4 y5 y6))
 | 0=>⟨fun _ _ _ _ r h=>by simp [cadenceref4_Level.j0] at h,fun _ _ _ _ _ _ _ r h=>by simp [cadenceref4_Level.l0] at h,fun _ _ _ _ _ r h=>by simp [cadenceref4_Level.l1] at h,fun _ _ _ _ _ _ r h=>by simp [cadenceref4_Level.l2] at h,fun _ _ _ _ _ _ _ r h=>by simp [cadenceref4_Level.j4] at h⟩
 | k+1=>by
  obtain ⟨ih0,ih1,ih2,ih3,ih4⟩:=cadenceref4_Level.mono_l k
  refine ⟨?_,?_,?_,?_,?_⟩
  ·intro y0 y1 y2 y3
   unfold cadenceref4_Level.j0
   repeat' first
   | (with_reducible exact ih0 _ _ _ _)
   | (with_reducible exact ih1 _ _ _ _ _ _ _)
   | (with_reducible exact ih2 _ _ _ _ _)
   | (with_reducible exact ih3 _ _ _ _ _ _)
   | (with_reducible exact ih4 _ _ _ _ _ _ _)
   | (with_reducible exact cadenceref4_To.mono _ _ _ _)
   | (with_reducible exact cadenceref4_has.mono _ _ _)
   | (with_reducible exact LeO.refl _)
   | (with_reducible exact LeO.none _)
   | (with_reducible refine LeO.ite ?_ ?_)
   | (with_reducible refine LeO.bind ?_ (fun _=>?_))
   | exact ih0 _ _ _ _
   | exact ih1 _ _ _ _ _ _ _
   | exact ih2 _ _ _ _ _
   | exact ih3 _ _ _ _ _ _
   | exact ih4 _ _ _ _ _ _ _
   | exact cadenceref4_To.mono _ _ _ _
   | exact cadenceref4_has.mono _ _ _
   | exact LeO.none _
   | refine LeO.ite ?_ ?_
   | refine LeO.bind ?_ (fun _=>?_)
  ·intro y0 y1 y2 y3 y4 y5 y6
   unfold cadenceref4_Level.l0
   repeat' first
   | (with_reducible exact ih0 _ _ _ _)
   | (with_reducible exact ih1 _ _ _ _ _ _ _)
   | (with_reducible exact ih2 _ _ _ _ _)
   | (with_reducible exact ih3 _ _ _ _ _ _)
   | (with_reducible exact ih4 _ _ _ _ _ _ _)
   | (with_reducible exact cadenceref4_To.mono _ _ _ _)
   | (with_reducible exact cadenceref4_has.mono _ _ _)
   | (with_reducible exact LeO.refl _)
   | (with_reducible exact LeO.none _)
   | (with_reducible refine LeO.ite ?_ ?_)
   | (with_reducible refine LeO.bind ?_ (fun _=>?_))
   | exact ih0 _ _ _ _
   | exact ih1 _ _ _ _ _ _ _
   | exact ih2 _ _ _ _ _
   | exact ih3 _ _ _ _ _ _
   | exact ih4 _ _ _ _ _ _ _
   | exact cadenceref4_To.mono _ _ _ _
   | exact cadenceref4_has.mono _ _ _
   | exact LeO.none _
   | refine LeO.ite ?_ ?_
   | refine LeO.bind ?_ (fun _=>?_)
  ·intro y0 y1 y2 y3 y4
   unfold cadenceref4_Level.l1
   repeat' first
   | (with_reducible exact ih0 _ _ _ _)
   | (with_reducible exact ih1 _ _ _ _ _ _ _)
   | (with_reducible exact ih2 _ _ _ _ _)
   | (with_reducible exact ih3 _ _ _ _ _ _)
   | (with_reducible exact ih4 _ _ _ _ _ _ _)
   | (with_reducible exact cadenceref4_To.mono _ _ _ _)
   | (with_reducible exact cadenceref4_has.mono _ _ _)
   | (with_reducible exact LeO.refl _)
   | (with_reducible exact LeO.none _)
   | (with_reducible refine LeO.ite ?_ ?_)
   | (with_reducible refine LeO.bind ?_ (fun _=>?_))
   | exact ih0 _ _ _ _
   | exact ih1 _ _ _ _ _ _ _
   | exact ih2 _ _ _ _ _
   | exact ih3 _ _ _ _ _ _
   | exact ih4 _ _ _ _ _ _ _
   | exact cadenceref4_To.mono _ _ _ _
   | exact cadenceref4_has.mono _ _ _
   | exact LeO.none _
   | refine LeO.ite ?_ ?_
   | refine LeO.bind ?_ (fun _=>?_)
  ·intro y0 y1 y2 y3 y4 y5
   unfold cadenceref4_Level.l2
   repeat' first
   | (with_reducible exact ih0 _ _ _ _)
   | (with_reducible exact ih1 _ _ _ _ _ _ _)
   | (with_reducible exact ih2 _ _ _ _ _)
   | (with_reducible exact ih3 _ _ _ _ _ _)
   | (with_reducible exact ih4 _ _ _ _ _ _ _)
   | (with_reducible exact cadenceref4_To.mono _ _ _ _)
   | (with_reducible exact cadenceref4_has.mono _ _ _)
   | (with_reducible exact LeO.refl _)
   | (with_reducible exact LeO.none _)
   | (with_reducible refine LeO.ite ?_ ?_)
   | (with_reducible refine LeO.bind ?_ (fun _=>?_))
   | exact ih0 _ _ _ _
   | exact ih1 _ _ _ _ _ _ _
   | exact ih2 _ _ _ _ _
   | exact ih3 _ _ _ _ _ _
   | exact ih4 _ _ _ _ _ _ _
   | exact cadenceref4_To.mono _ _ _ _
   | exact cadenceref4_has.mono _ _ _
   | exact LeO.none _
   | refine LeO.ite ?_ ?_
   | refine LeO.bind ?_ (fun _=>?_)
  ·intro y0 y1 y2 y3 y4 y5 y6
   unfold cadenceref4_Level.j4
   repeat' first
   | (with_reducible exact ih0 _ _ _ _)
   | (with_reducible exact ih1 _ _ _ _ _ _ _)
   | (with_reducible exact ih2 _ _ _ _ _)
   | (with_reducible exact ih3 _ _ _ _ _ _)
   | (with_reducible exact ih4 _ _ _ _ _ _ _)
   | (with_reducible exact cadenceref4_To.mono _ _ _ _)
   | (with_reducible exact cadenceref4_has.mono _ _ _)
   | (with_reducible exact LeO.refl _)
   | (with_reducible exact LeO.none _)
   | (with_reducible refine LeO.ite ?_ ?_)
   | (with_reducible refine LeO.bind ?_ (fun _=>?_))
   | exact ih0 _ _ _ _
   | exact ih1 _ _ _ _ _ _ _
   | exact ih2 _ _ _ _ _
   | exact ih3 _ _ _ _ _ _
   | exact ih4 _ _ _ _ _ _ _
   | exact cadenceref4_To.mono _ _ _ _
   | exact cadenceref4_has.mono _ _ _
   | exact LeO.none _
   | refine LeO.ite ?_ ?_
   | refine LeO.bind ?_ (fun _=>?_)
theorem cadenceref4_Level.mono:∀ a0 a1 a2 k,LeO (cadenceref4_Level.f k a0 a1 a2) (cadenceref4_Level.f (k+1) a0 a1 a2):=by
 intro a0 a1 a2 k
 obtain ⟨ih0,ih1,ih2,ih3,ih4⟩:=cadenceref4_Level.mono_l k
 unfold cadenceref4_Level.f
 repeat' first
   | (with_reducible exact ih0 _ _ _ _)
   | (with_reducible exact ih1 _ _ _ _ _ _ _)
   | (with_reducible exact ih2 _ _ _ _ _)
   | (with_reducible exact ih3 _ _ _ _ _ _)
   | (with_reducible exact ih4 _ _ _ _ _ _ _)
   | (with_reducible exact cadenceref4_To.mono _ _ _ _)
   | (with_reducible exact cadenceref4_has.mono _ _ _)
   | (with_reducible exact LeO.refl _)
   | (with_reducible exact LeO.none _)
   | (with_reducible refine LeO.ite ?_ ?_)
   | (with_reducible refine LeO.bind ?_ (fun _=>?_))
   | exact ih0 _ _ _ _
   | exact ih1 _ _ _ _ _ _ _
   | exact ih2 _ _ _ _ _
   | exact ih3 _ _ _ _ _ _
   | exact ih4 _ _ _ _ _ _ _
   | exact cadenceref4_To.mono _ _ _ _
   | exact cadenceref4_has.mono _ _ _
   | exact LeO.none _
   | refine LeO.ite ?_ ?_
   | refine LeO.bind ?_ (fun _=>?_)
set_option maxHeartbeats 8000000 in
set_option maxRecDepth 100000 in
theorem cadenceref4_Level.calls (k:Nat) (A0:Option Addr) (c0:Nat) (l0:List (S33)) (a1:Int) (A2:Option Addr) (c2:Nat) (l2:List (S53)) (r:Bool) (w:World) (hr0:Kd.C k33 w A0 l0.length l0) (hc0:l0.length≤c0) (hr2:Kd.C k53 w A2 l2.length l2) (hc2:l2.length≤c2) (h:cadenceref4_Level.f k l0 a1 l2=some r) :
  Calls Try.prog 17 #[.slice A0 l0.length c0,.int .i64 a1,.slice A2 l2.length c2] w fun e w'=>e=.returned (.bool r)∧Below w.heap.size w w':=by
 have hu33:=Try.underlying33
 have HR0:=Aside0.mk hr0
 have HC0:=Aside0.mk hc0
 clear hr0 hc0
 have HR2:=Aside0.mk hr2
 have HC2:=Aside0.mk hc2
 clear hr2 hc2
 have HB:=Aside0.mk (Below.refl w.heap.size w)
 have H:(if a1 < 0 then (cadenceref4_Level.j0 k l0 a1 l2 true) else (cadenceref4_Level.j0 k l0 a1 l2 (decide (a1 ≥ (l0.length:Int)))))=some r:=h
 clear h
 have HC4:=Aside0.mk H
 clear H
 go_enter Try.func17,Try.ntmps17
 go_upto_region 1 with (fail)
 go_cut [18] (fun v18 wc=>∃ (kq:Nat) (x18_3:Bool),v18=.bool x18_3∧Aside0 (cadenceref4_Level.j0 kq l0 a1 l2 x18_3=some r)∧Aside0 (kq≤k)∧Aside0 (Below w.heap.size w wc))
 case first =>
  have H:=HC4.out
  clear HC4
  by_cases c5:a1 < 0
  ·rw [if_pos c5] at H
   have c5b0:decide (a1 < 0)=true:=decide_eq_true c5
   clear c5
   (first|rw [c5b0]|(simp only [i64_w,i32_w];rw [c5b0])|skip)
   have H':=Aside0.mk H
   clear H
   go_wp2
   go_meet
   case rel=>exact ⟨_,(true),(by first|rfl|(simp;done)|(simp [*];done)),H',⟨by first|omega|exact Nat.le_refl _⟩,⟨by repeat (first|(with_reducible first|exact HB.out|apply bA_|apply bN_|apply bD_)|exact HB.out)⟩⟩
  ·rw [if_neg c5] at H
   have c5b0:decide (a1 < 0)=false:=decide_eq_false c5
   clear c5
   (first|rw [c5b0]|(simp only [i64_w,i32_w];rw [c5b0])|skip)
   have H':=Aside0.mk H
   clear H
   go_wp2
   go_meet
   case rel=>exact ⟨_,(decide (a1 ≥ (l0.length:Int))),(by first|rfl|(simp;done)|(simp [*];done)),H',⟨by first|omega|exact Nat.le_refl _⟩,⟨by repeat (first|(with_reducible first|exact HB.out|apply bA_|apply bN_|apply bD_)|exact HB.out)⟩⟩
 case rest =>
  clear HC4
  try clear c1
  try clear c2
  try clear p2
  try clear c5
  try clear c5b0
  obtain ⟨kq,x18_3,rfl,HA,HJ3,HB⟩:=hcut
  cases kq with
  | zero=>exact absurd HA.out (by simp [cadenceref4_Level.j0])
  | succ kj3 =>
   have H:=HA.out
   clear HA
   simp only [cadenceref4_Level.j0] at H
   by_cases c6:x18_3=true
   ·subst c6
    have H1:(some false)=some r:=by rw [if_pos rfl] at H;exact H
    clear H
    have H:=H1
    clear H1
    obtain rfl:=Option.some.inj H
    go_wp2
    go_ret
    exact ⟨by first|rfl|(simp [errW_none,errW_some] <;> rfl)|(simp [*,errW_none,errW_some] <;> rfl),by repeat (first|(with_reducible first|exact HB.out|apply bA_|apply bN_|apply bD_)|exact HB.out)⟩
   ·replace c6:=Bool.eq_false_iff.mpr c6
    subst c6
    have H1:(if 0≤a1 then (if a1 < (l0.length:Int) then (cadenceref4_Level.l0 kj3 l0 a1 l2 0 ((rd_T33 l0 a1).f0) ((rd_T33 l0 a1).f1) ((rd_T33 l0 a1).f2)) else (none)) else (none))=some r:=by rw [if_neg (show ¬ (false=true) by decide)] at H;exact H
    clear H
    have H:=H1
    clear H1
    by_cases c7:0≤a1
    ·rw [if_pos c7] at H
     have c7b0:decide (0≤a1)=true:=decide_eq_true c7
     clear c7
     by_cases c8:a1 < (l0.length:Int)
     ·rw [if_pos c8] at H
      have c8b0:decide (a1 < (l0.length:Int))=true:=decide_eq_true c8
      clear c8
      have H':=Aside0.mk H
      clear H
      have p317:0≤(a1:Int):=of_decide_eq_true (by first|(with_reducible assumption)|assumption)
      have q317:a1 < (l0.length:Int):=of_decide_eq_true (by first|(with_reducible assumption)|assumption)
      obtain ⟨ad317,A317_0,c317_0,e317,hx317_0,hx317_1,hx317_2,hl317_0,hi317_0⟩:=at_T33 HR0.out a1 p317 q317
      cases e317
      replace hx317_0:=(HB.out.cell (World.block_lt_of_cell? w _ hx317_0)).trans hx317_0
      replace hx317_1:=(HB.out.cell (World.block_lt_of_cell? w _ hx317_1)).trans hx317_1
      replace hx317_2:=(HB.out.cell (World.block_lt_of_cell? w _ hx317_2)).trans hx317_2
      have HR317_0:=Aside0.mk hi317_0
      have HC317_0:=Aside0.mk hl317_0
      clear hi317_0 hl317_0
      replace p317:=eq_true p317
      replace q317:=eq_true q317
      go_wp2_with (first|((with_reducible refine gate_dst (N:=7) rfl ?_);(try (refine gate_guard (by rfl) ?_;dsimp only));refine box_event ?hg (N:=7) ?hd (cs:=#[.slice none 0 0,.bool false,.bool false]) (t:=33) ?hr ?_;(case hd=>rfl);(case hg=>rfl);(case hr=>first|(go_simp;done)|(go_simp;rfl));intro gb318 hg w9 hbox hb;have n0_:=Aside0.mk (below_step (by repeat (first|(with_reducible first|exact HB.out|apply bA_|apply bN_|apply bD_)|exact HB.out)) hb);have n1_:=Aside0.mk (hbox);have n2_:=Aside0.mk ((by rw [hg];exact (below_size (by repeat (first|(with_reducible first|exact HB.out|apply bA_|apply bN_|apply bD_)|exact HB.out))):w.heap.size≤gb318));have n3_:=Aside0.mk ((by rw [hg];exact (below_size (by repeat (first|(with_reducible first|exact HB.out|apply bA_|apply bN_|apply bD_)|exact HB.out))):w.heap.size≤gb318));clear HB;have HB:=n0_;have BK318:=n1_;have GW318:=n2_;have GE318:=n3_;clear n0_ n1_ n2_ n3_;clear hb hbox hg;have hcz10_0:w9.cell? ⟨gb318,0,none⟩=some (.slice none 0 0):=(blk_cell BK318.out 0).trans rfl;have hcz10_1:w9.cell? ⟨gb318,1,none⟩=some (.bool false):=(blk_cell BK318.out 1).trans rfl;have hcz10_2:w9.cell? ⟨gb318,2,none⟩=some (.bool false):=(blk_cell BK318.out 2).trans rfl;have hfz10_0:=blk_frozen BK318.out 0;have hfz10_1:=blk_frozen BK318.out 1;have hfz10_2:=blk_frozen BK318.out 2))
      go_loopg [8] kj3 (fun kq v8 w'=>∃ (x8_2:Int),v8=.int .i64 x8_2∧Aside0 (cadenceref4_Level.l0 kq l0 a1 l2 x8_2 ((rd_T33 l0 a1).f0) ((rd_T33 l0 a1).f1) ((rd_T33 l0 a1).f2)=some r)∧Aside0 (kq≤kj3)∧Aside0 (w'.heap[gb318]? = some (.cells #[(.slice A317_0 ((rd_T33 l0 a1).f0).length c317_0),.bool ((rd_T33 l0 a1).f1),.bool ((rd_T33 l0 a1).f2)] 33 (0,0)))∧Aside0 (Below w.heap.size w w'))
      case atStart=>exact ⟨(0),(by first|rfl|(simp;done)|(simp [*];done)),H',⟨Nat.le_refl _⟩,⟨by (with_reducible repeat (first|refine blk_drewN ?_ _|refine blk_drew ?_|refine blk_alloc ?_ _));refine blk_put (cs:=#[.slice A317_0 ((rd_T33 l0 a1).f0).length c317_0,.bool ((rd_T33 l0 a1).f1),.bool false]) ?_ 2 _ rfl;(with_reducible repeat (first|refine blk_drewN ?_ _|refine blk_drew ?_|refine blk_alloc ?_ _));refine blk_put (cs:=#[.slice A317_0 ((rd_T33 l0 a1).f0).length c317_0,.bool false,.bool false]) ?_ 1 _ rfl;(with_reducible repeat (first|refine blk_drewN ?_ _|refine blk_drew ?_|refine blk_alloc ?_ _));refine blk_put (cs:=#[.slice none 0 0,.bool false,.bool false]) ?_ 0 _ rfl;(with_reducible repeat (first|refine blk_drewN ?_ _|refine blk_drew ?_|refine blk_alloc ?_ _));exact BK318.out⟩,⟨by repeat (first|(with_reducible first|exact HB.out|apply bA_|apply bN_|apply bD_|refine below_set ?_ GE318.out)|exact HB.out)⟩⟩
      case round =>
       clear H'
       try clear c1
       try clear c2
       try clear p2
       try clear c3
       try clear p3
       try clear q3
       try clear hx3
       try clear c5
       try clear c5b0
       try clear c6
       try clear c7
       try clear c7b0
       try clear c8
       try clear c8b0
       try clear hcz10_0
       try clear hcz10_1
       try clear hcz10_2
       try clear hfz10_0
       try clear hfz10_1
       try clear hfz10_2
       try clear hx317_0
       try clear hx317_1
       try clear hx317_2
       try clear p2
       try clear p317
       try clear q317
       obtain ⟨x8_2,rfl,HA,HK2,BK318,HB⟩:=hrel
       cases gk with
       | zero=>exact absurd HA.out (by simp [cadenceref4_Level.l0])
       | succ k2 =>
        have H:=HA.out
        clear HA
        simp only [cadenceref4_Level.l0] at H
        by_cases c11:x8_2 < (l2.length:Int)
        ·rw [if_pos c11] at H
         have c11b0:decide (x8_2 < (l2.length:Int))=true:=decide_eq_true c11
         clear c11
         by_cases c12:0≤x8_2
         ·rw [if_pos c12] at H
          have c12b0:decide (0≤x8_2)=true:=decide_eq_true c12
          clear c12
          replace H:=Option.bind_eq_some_iff.mp H
          obtain ⟨t320,A130,H⟩:=H
          replace H:(if t320 < 0 then (some false) else (cadenceref4_Level.l0 k2 l0 a1 l2 (wrap64 (x8_2+1)) ((rd_T33 l0 a1).f0) ((rd_T33 l0 a1).f1) ((rd_T33 l0 a1).f2)))=some r:=H
          have A13:=Aside0.mk A130
          clear A130
          by_cases c14:t320 < 0
          ·rw [if_pos c14] at H
           have c14b0:decide (t320 < 0)=true:=decide_eq_true c14
           clear c14
           obtain rfl:=Option.some.inj H
           have p319:0≤(x8_2:Int):=of_decide_eq_true (by first|(with_reducible assumption)|assumption)
           have q319:x8_2 < (l2.length:Int):=of_decide_eq_true (by first|(with_reducible assumption)|assumption)
           obtain ⟨ad319,A319_1,c319_1,e319,hx319_0,hx319_1,hl319_1,hi319_1⟩:=at_T53 HR2.out x8_2 p319 q319
           cases e319
           replace hx319_0:=(HB.out.cell (World.block_lt_of_cell? w _ hx319_0)).trans hx319_0
           replace hx319_1:=(HB.out.cell (World.block_lt_of_cell? w _ hx319_1)).trans hx319_1
           have HR319_1:=Aside0.mk hi319_1
           have HC319_1:=Aside0.mk hl319_1
           clear hi319_1 hl319_1
           replace p319:=eq_true p319
           replace q319:=eq_true q319
           go_wp2_with (first|((with_reducible refine gate_callee (f:=21) rfl ?_);refine goesL_ (some 36) rfl rfl Try.func21 (by kernel_rfl) rfl #[.slice (some ad317) l0.length c0,.int .i64 a1,.string ((rd_T53 l2 x8_2).f0)] rfl (by (try simp only [List.map_toArray,List.map_cons,List.map_nil]);first|done|rfl|(simp only [List.length_drop,List.length_take];rfl)) ?_;(with_reducible refine (cadenceref4_To.calls k2 _ _ l0 a1 ((rd_T53 l2 x8_2).f0) t320 _ ?side1 ?side2 A13.out).mono ?_);(case side1=>repeat (first|exact (Kd.C_below HR0.out HB.out)|(with_reducible refine cA_ ?_ _)|(with_reducible refine cN_ ?_ _)|(with_reducible refine cD_ ?_)));(case side2=>exact HC0.out);rintro e w15 ⟨rfl,hb⟩;refine ⟨_,rfl,?_⟩;have n0_:=Aside0.mk (blk_below (g:=gb318) (o:=.cells #[.slice A317_0 ((rd_T33 l0 a1).f0).length c317_0,.bool ((rd_T33 l0 a1).f1),.bool ((rd_T33 l0 a1).f2)] 33 (0,0)) (by (with_reducible repeat (first|refine blk_drewN ?_ _|refine blk_drew ?_|refine blk_alloc ?_ _));exact BK318.out) hb);have n1_:=Aside0.mk (below_step (by repeat (first|(with_reducible first|exact HB.out|apply bA_|apply bN_|apply bD_|refine below_set ?_ GE318.out)|exact HB.out)) hb);clear BK318;clear HB;have BK318:=n0_;have HB:=n1_;clear n0_ n1_;(try clear hb);(try clear hb2);(try clear hk);(try clear hi)))
           go_ret
           exact ⟨by first|rfl|(simp [errW_none,errW_some] <;> rfl)|(simp [*,errW_none,errW_some] <;> rfl),by repeat (first|(with_reducible first|exact HB.out|apply bA_|apply bN_|apply bD_|refine below_set ?_ GE318.out)|exact HB.out)⟩
          ·rw [if_neg c14] at H
           have c14b0:decide (t320 < 0)=false:=decide_eq_false c14
           clear c14
           have H':=Aside0.mk H
           clear H
           have p319:0≤(x8_2:Int):=of_decide_eq_true (by first|(with_reducible assumption)|assumption)
           have q319:x8_2 < (l2.length:Int):=of_decide_eq_true (by first|(with_reducible assumption)|assumption)
           obtain ⟨ad319,A319_1,c319_1,e319,hx319_0,hx319_1,hl319_1,hi319_1⟩:=at_T53 HR2.out x8_2 p319 q319
           cases e319
           replace hx319_0:=(HB.out.cell (World.block_lt_of_cell? w _ hx319_0)).trans hx319_0
           replace hx319_1:=(HB.out.cell (World.block_lt_of_cell? w _ hx319_1)).trans hx319_1
           have HR319_1:=Aside0.mk hi319_1
           have HC319_1:=Aside0.mk hl319_1
           clear hi319_1 hl319_1
           replace p319:=eq_true p319
           replace q319:=eq_true q319
           go_wp2_with (first|((with_reducible refine gate_callee (f:=21) rfl ?_);refine goesL_ (some 36) rfl rfl Try.func21 (by kernel_rfl) rfl #[.slice (some ad317) l0.length c0,.int .i64 a1,.string ((rd_T53 l2 x8_2).f0)] rfl (by (try simp only [List.map_toArray,List.map_cons,List.map_nil]);first|done|rfl|(simp only [List.length_drop,List.length_take];rfl)) ?_;(with_reducible refine (cadenceref4_To.calls k2 _ _ l0 a1 ((rd_T53 l2 x8_2).f0) t320 _ ?side1 ?side2 A13.out).mono ?_);(case side1=>repeat (first|exact (Kd.C_below HR0.out HB.out)|(with_reducible refine cA_ ?_ _)|(with_reducible refine cN_ ?_ _)|(with_reducible refine cD_ ?_)));(case side2=>exact HC0.out);rintro e w16 ⟨rfl,hb⟩;refine ⟨_,rfl,?_⟩;have n0_:=Aside0.mk (blk_below (g:=gb318) (o:=.cells #[.slice A317_0 ((rd_T33 l0 a1).f0).length c317_0,.bool ((rd_T33 l0 a1).f1),.bool ((rd_T33 l0 a1).f2)] 33 (0,0)) (by (with_reducible repeat (first|refine blk_drewN ?_ _|refine blk_drew ?_|refine blk_alloc ?_ _));exact BK318.out) hb);have n1_:=Aside0.mk (below_step (by repeat (first|(with_reducible first|exact HB.out|apply bA_|apply bN_|apply bD_|refine below_set ?_ GE318.out)|exact HB.out)) hb);clear BK318;clear HB;have BK318:=n0_;have HB:=n1_;clear n0_ n1_;(try clear hb);(try clear hb2);(try clear hk);(try clear hi)))
           go_roundg k2
           case measure=>have:=HJ3.out;have:=HK2.out;omega
           case rel=>exact ⟨(wrap64 (x8_2+1)),(by first|rfl|(simp;done)|(simp [*];done)),H',⟨by have:=HJ3.out;have:=HK2.out;omega⟩,⟨by (with_reducible repeat (first|refine blk_drewN ?_ _|refine blk_drew ?_|refine blk_alloc ?_ _));exact BK318.out⟩,⟨by repeat (first|(with_reducible first|exact HB.out|apply bA_|apply bN_|apply bD_|refine below_set ?_ GE318.out)|exact HB.out)⟩⟩
         ·rw [if_neg c12] at H
          exact absurd H (by simp)
        ·rw [if_neg c11] at H
         have c11b0:decide (x8_2 < (l2.length:Int))=false:=decide_eq_false c11
         clear c11
         have H':=Aside0.mk H
         clear H
         go_wp2
         go_loopg [9] k2 (fun kq v9 w'=>∃ (x9_3:Int),v9=.int .i64 x9_3∧Aside0 (cadenceref4_Level.l1 kq l2 x9_3 ((rd_T33 l0 a1).f0) ((rd_T33 l0 a1).f1) ((rd_T33 l0 a1).f2)=some r)∧Aside0 (kq≤k2)∧Aside0 (w'.heap[gb318]? = some (.cells #[(.slice A317_0 ((rd_T33 l0 a1).f0).length c317_0),.bool ((rd_T33 l0 a1).f1),.bool ((rd_T33 l0 a1).f2)] 33 (0,0)))∧Aside0 (Below w.heap.size w w'))
         case atStart=>exact ⟨(0),(by first|rfl|(simp;done)|(simp [*];done)),H',⟨Nat.le_refl _⟩,⟨by (with_reducible repeat (first|refine blk_drewN ?_ _|refine blk_drew ?_|refine blk_alloc ?_ _));exact BK318.out⟩,⟨by repeat (first|(with_reducible first|exact HB.out|apply bA_|apply bN_|apply bD_|refine below_set ?_ GE318.out)|exact HB.out)⟩⟩
         case round =>
          clear H'
          try clear c1
          try clear c2
          try clear p2
          try clear c3
          try clear p3
          try clear q3
          try clear hx3
          try clear c5
          try clear c5b0
          try clear c6
          try clear p6
          try clear c7
          try clear c7b0
          try clear c8
          try clear c8b0
          try clear c11
          try clear c11b0
          try clear c12
          try clear c12b0
          try clear c14
          try clear c14b0
          try clear hcz10_0
          try clear hcz10_1
          try clear hcz10_2
          try clear hfz10_0
          try clear hfz10_1
          try clear hfz10_2
          try clear hx317_0
          try clear hx317_1
          try clear hx317_2
          try clear hx319_0
          try clear hx319_1
          try clear p2
          try clear p3
          try clear p317
          try clear p319
          try clear q3
          try clear q317
          try clear q319
          obtain ⟨x9_3,rfl,HA,HK3,BK318,HB⟩:=hrel
          cases gk with
          | zero=>exact absurd HA.out (by simp [cadenceref4_Level.l1])
          | succ k3 =>
           have H:=HA.out
           clear HA
           simp only [cadenceref4_Level.l1] at H
           by_cases c17:x9_3 < (((rd_T33 l0 a1).f0).length:Int)
           ·rw [if_pos c17] at H
            have c17b0:decide (x9_3 < (((rd_T33 l0 a1).f0).length:Int))=true:=decide_eq_true c17
            clear c17
            have H':=Aside0.mk H
            clear H
            have hcz18_0:wr.cell? ⟨gb318,0,none⟩=some (.slice A317_0 ((rd_T33 l0 a1).f0).length c317_0):=(blk_cell BK318.out 0).trans rfl
            have hcz18_1:wr.cell? ⟨gb318,1,none⟩=some (.bool ((rd_T33 l0 a1).f1)):=(blk_cell BK318.out 1).trans rfl
            have hcz18_2:wr.cell? ⟨gb318,2,none⟩=some (.bool ((rd_T33 l0 a1).f2)):=(blk_cell BK318.out 2).trans rfl
            have hfz18_0:=blk_frozen BK318.out 0
            have hfz18_1:=blk_frozen BK318.out 1
            have hfz18_2:=blk_frozen BK318.out 2
            go_wp2
            go_loopg [10] k3 (fun kq v10 w'=>∃ (x10_4:Int),v10=.int .i64 x10_4∧Aside0 (cadenceref4_Level.l2 kq l2 x9_3 x10_4 ((rd_T33 l0 a1).f0) ((rd_T33 l0 a1).f1) ((rd_T33 l0 a1).f2)=some r)∧Aside0 (kq≤k3)∧Aside0 (w'.heap[gb318]? = some (.cells #[(.slice A317_0 ((rd_T33 l0 a1).f0).length c317_0),.bool ((rd_T33 l0 a1).f1),.bool ((rd_T33 l0 a1).f2)] 33 (0,0)))∧Aside0 (Below w.heap.size w w'))
            case atStart=>exact ⟨(0),(by first|rfl|(simp;done)|(simp [*];done)),H',⟨Nat.le_refl _⟩,⟨by (with_reducible repeat (first|refine blk_drewN ?_ _|refine blk_drew ?_|refine blk_alloc ?_ _));exact BK318.out⟩,⟨by repeat (first|(with_reducible first|exact HB.out|apply bA_|apply bN_|apply bD_|refine below_set ?_ GE318.out)|exact HB.out)⟩⟩
            case round =>
             clear H'
             try clear c1
             try clear c2
             try clear p2
             try clear c3
             try clear p3
             try clear q3
             try clear hx3
             try clear c5
             try clear c5b0
             try clear c6
             try clear p6
             try clear c7
             try clear c7b0
             try clear c8
             try clear c8b0
             try clear c11
             try clear c11b0
             try clear c12
             try clear c12b0
             try clear c14
             try clear c14b0
             try clear c17
             try clear c17b0
             try clear hcz10_0
             try clear hcz10_1
             try clear hcz10_2
             try clear hcz18_0
             try clear hcz18_1
             try clear hcz18_2
             try clear hfz10_0
             try clear hfz10_1
             try clear hfz10_2
             try clear hfz18_0
             try clear hfz18_1
             try clear hfz18_2
             try clear hx317_0
             try clear hx317_1
             try clear hx317_2
             try clear hx319_0
             try clear hx319_1
             try clear p2
             try clear p3
             try clear p317
             try clear p319
             try clear p6
             try clear q3
             try clear q317
             try clear q319
             obtain ⟨x10_4,rfl,HA,HK4,BK318,HB⟩:=hrel
             cases gk with
             | zero=>exact absurd HA.out (by simp [cadenceref4_Level.l2])
             | succ k4 =>
              have H:=HA.out
              clear HA
              simp only [cadenceref4_Level.l2] at H
              have HC19:=Aside0.mk H
              clear H
              go_upto_region 13 with (fail)
              go_cut [62] (fun v62 wc=>∃ (kq:Nat) (x62_18:Bool),v62=.bool x62_18∧Aside0 (cadenceref4_Level.j4 kq l2 x9_3 x10_4 x62_18 ((rd_T33 l0 a1).f0) ((rd_T33 l0 a1).f1) ((rd_T33 l0 a1).f2)=some r)∧Aside0 (kq≤k4)∧Aside0 (wc.heap[gb318]? = some (.cells #[(.slice A317_0 ((rd_T33 l0 a1).f0).length c317_0),.bool ((rd_T33 l0 a1).f1),.bool ((rd_T33 l0 a1).f2)] 33 (0,0)))∧Aside0 (Below w.heap.size w wc))
              case first =>
               have H:=HC19.out
               clear HC19
               by_cases c20:0≤x9_3
               ·rw [if_pos c20] at H
                have c20b0:decide (0≤x9_3)=true:=decide_eq_true c20
                clear c20
                (first|rw [c20b0]|(simp only [i64_w,i32_w];rw [c20b0])|skip)
                by_cases c21:x9_3 < (((rd_T33 l0 a1).f0).length:Int)
                ·rw [if_pos c21] at H
                 have c21b0:decide (x9_3 < (((rd_T33 l0 a1).f0).length:Int))=true:=decide_eq_true c21
                 clear c21
                 by_cases c22:x10_4 < (((rd_T40 ((rd_T33 l0 a1).f0) x9_3).f0.f1).length:Int)
                 ·rw [if_pos c22] at H
                  have c22b0:decide (x10_4 < (((rd_T40 ((rd_T33 l0 a1).f0) x9_3).f0.f1).length:Int))=true:=decide_eq_true c22
                  clear c22
                  have H':=Aside0.mk H
                  clear H
                  have hcz23_0:wr.cell? ⟨gb318,0,none⟩=some (.slice A317_0 ((rd_T33 l0 a1).f0).length c317_0):=(blk_cell BK318.out 0).trans rfl
                  have hcz23_1:wr.cell? ⟨gb318,1,none⟩=some (.bool ((rd_T33 l0 a1).f1)):=(blk_cell BK318.out 1).trans rfl
                  have hcz23_2:wr.cell? ⟨gb318,2,none⟩=some (.bool ((rd_T33 l0 a1).f2)):=(blk_cell BK318.out 2).trans rfl
                  have hfz23_0:=blk_frozen BK318.out 0
                  have hfz23_1:=blk_frozen BK318.out 1
                  have hfz23_2:=blk_frozen BK318.out 2
                  have p321:0≤(x9_3:Int):=of_decide_eq_true (by first|(with_reducible assumption)|assumption)
                  have q321:x9_3 < (((rd_T33 l0 a1).f0).length:Int):=of_decide_eq_true (by first|(with_reducible assumption)|assumption)
                  obtain ⟨ad321,A321_1,c321_1,e321,hx321_0,hx321_1,hx321_2,hx321_3,hl321_1,hi321_1⟩:=at_T40 HR317_0.out x9_3 p321 q321
                  cases e321
                  replace hx321_0:=(HB.out.cell (World.block_lt_of_cell? w _ hx321_0)).trans hx321_0
                  replace hx321_1:=(HB.out.cell (World.block_lt_of_cell? w _ hx321_1)).trans hx321_1
                  replace hx321_2:=(HB.out.cell (World.block_lt_of_cell? w _ hx321_2)).trans hx321_2
                  replace hx321_3:=(HB.out.cell (World.block_lt_of_cell? w _ hx321_3)).trans hx321_3
                  have HR321_1:=Aside0.mk hi321_1
                  have HC321_1:=Aside0.mk hl321_1
                  clear hi321_1 hl321_1
                  replace p321:=eq_true p321
                  replace q321:=eq_true q321
                  have p322:0≤(x9_3:Int):=of_decide_eq_true (by first|(with_reducible assumption)|assumption)
                  have q322:x9_3 < (((rd_T33 l0 a1).f0).length:Int):=of_decide_eq_true (by first|(with_reducible assumption)|assumption)
                  obtain ⟨ad322,A322_1,c322_1,e322,hx322_0,hx322_1,hx322_2,hx322_3,hl322_1,hi322_1⟩:=at_T40 HR317_0.out x9_3 p322 q322
                  obtain rfl:ad321=ad322:=(by injection e322)
                  replace hx322_0:=(HB.out.cell (World.block_lt_of_cell? w _ hx322_0)).trans hx322_0
                  replace hx322_1:=(HB.out.cell (World.block_lt_of_cell? w _ hx322_1)).trans hx322_1
                  replace hx322_2:=(HB.out.cell (World.block_lt_of_cell? w _ hx322_2)).trans hx322_2
                  replace hx322_3:=(HB.out.cell (World.block_lt_of_cell? w _ hx322_3)).trans hx322_3
                  have HR322_1:=Aside0.mk hi322_1
                  have HC322_1:=Aside0.mk hl322_1
                  clear hi322_1 hl322_1
                  replace p322:=eq_true p322
                  replace q322:=eq_true q322
                  have ea_:=Option.some.inj (hx321_1.symm.trans hx322_1)
                  injection ea_ with ea_ en_ ec_
                  subst ea_
                  subst ec_
                  clear en_
                  go_wp2
                  go_meet
                  case rel=>exact ⟨_,((rd_T40 ((rd_T33 l0 a1).f0) x9_3).f2),(by first|rfl|(simp;done)|(simp [*];done)),H',⟨by have:=HJ3.out;have:=HK2.out;have:=HK3.out;have:=HK4.out;first|omega|exact Nat.le_refl _⟩,⟨by (with_reducible repeat (first|refine blk_drewN ?_ _|refine blk_drew ?_|refine blk_alloc ?_ _));exact BK318.out⟩,⟨by repeat (first|(with_reducible first|exact HB.out|apply bA_|apply bN_|apply bD_|refine below_set ?_ GE318.out)|exact HB.out)⟩⟩
                 ·rw [if_neg c22] at H
                  have c22b0:decide (x10_4 < (((rd_T40 ((rd_T33 l0 a1).f0) x9_3).f0.f1).length:Int))=false:=decide_eq_false c22
                  clear c22
                  have H':=Aside0.mk H
                  clear H
                  have hcz24_0:wr.cell? ⟨gb318,0,none⟩=some (.slice A317_0 ((rd_T33 l0 a1).f0).length c317_0):=(blk_cell BK318.out 0).trans rfl
                  have hcz24_1:wr.cell? ⟨gb318,1,none⟩=some (.bool ((rd_T33 l0 a1).f1)):=(blk_cell BK318.out 1).trans rfl
                  have hcz24_2:wr.cell? ⟨gb318,2,none⟩=some (.bool ((rd_T33 l0 a1).f2)):=(blk_cell BK318.out 2).trans rfl
                  have hfz24_0:=blk_frozen BK318.out 0
                  have hfz24_1:=blk_frozen BK318.out 1
                  have hfz24_2:=blk_frozen BK318.out 2
                  have p321:0≤(x9_3:Int):=of_decide_eq_true (by first|(with_reducible assumption)|assumption)
                  have q321:x9_3 < (((rd_T33 l0 a1).f0).length:Int):=of_decide_eq_true (by first|(with_reducible assumption)|assumption)
                  obtain ⟨ad321,A321_1,c321_1,e321,hx321_0,hx321_1,hx321_2,hx321_3,hl321_1,hi321_1⟩:=at_T40 HR317_0.out x9_3 p321 q321
                  cases e321
                  replace hx321_0:=(HB.out.cell (World.block_lt_of_cell? w _ hx321_0)).trans hx321_0
                  replace hx321_1:=(HB.out.cell (World.block_lt_of_cell? w _ hx321_1)).trans hx321_1
                  replace hx321_2:=(HB.out.cell (World.block_lt_of_cell? w _ hx321_2)).trans hx321_2
                  replace hx321_3:=(HB.out.cell (World.block_lt_of_cell? w _ hx321_3)).trans hx321_3
                  have HR321_1:=Aside0.mk hi321_1
                  have HC321_1:=Aside0.mk hl321_1
                  clear hi321_1 hl321_1
                  replace p321:=eq_true p321
                  replace q321:=eq_true q321
                  go_wp2
                  go_meet
                  case rel=>exact ⟨_,(false),(by first|rfl|(simp;done)|(simp [*];done)),H',⟨by have:=HJ3.out;have:=HK2.out;have:=HK3.out;have:=HK4.out;first|omega|exact Nat.le_refl _⟩,⟨by (with_reducible repeat (first|refine blk_drewN ?_ _|refine blk_drew ?_|refine blk_alloc ?_ _));exact BK318.out⟩,⟨by repeat (first|(with_reducible first|exact HB.out|apply bA_|apply bN_|apply bD_|refine below_set ?_ GE318.out)|exact HB.out)⟩⟩
                ·rw [if_neg c21] at H
                 exact absurd H (by simp)
               ·rw [if_neg c20] at H
                exact absurd H (by simp)
              case rest =>
               clear HC19
               try clear c1
               try clear c2
               try clear p2
               try clear c3
               try clear p3
               try clear q3
               try clear hx3
               try clear c5
               try clear c5b0
               try clear c6
               try clear p6
               try clear c7
               try clear c7b0
               try clear c8
               try clear c8b0
               try clear c11
               try clear c11b0
               try clear c12
               try clear c12b0
               try clear c14
               try clear c14b0
               try clear c17
               try clear c17b0
               try clear c20
               try clear c20b0
               try clear c21
               try clear c21b0
               try clear c22
               try clear c22b0
               try clear hcz10_0
               try clear hcz10_1
               try clear hcz10_2
               try clear hcz18_0
               try clear hcz18_1
               try clear hcz18_2
               try clear hcz23_0
               try clear hcz23_1
               try clear hcz23_2
               try clear hcz24_0
               try clear hcz24_1
               try clear hcz24_2
               try clear hfz10_0
               try clear hfz10_1
               try clear hfz10_2
               try clear hfz18_0
               try clear hfz18_1
               try clear hfz18_2
               try clear hfz23_0
               try clear hfz23_1
               try clear hfz23_2
               try clear hfz24_0
               try clear hfz24_1
               try clear hfz24_2
               try clear hx317_0
               try clear hx317_1
               try clear hx317_2
               try clear hx319_0
               try clear hx319_1
               try clear hx321_0
               try clear hx321_1
               try clear hx321_2
               try clear hx321_3
               try clear hx322_0
               try clear hx322_1
               try clear hx322_2
               try clear hx322_3
               try clear p2
               try clear p3
               try clear p317
               try clear p319
               try clear p321
               try clear p322
               try clear p6
               try clear q3
               try clear q317
               try clear q319
               try clear q321
               try clear q322
               obtain ⟨kq,x62_18,rfl,HA,HJ18,BK318,HB⟩:=hcut
               cases kq with
               | zero=>exact absurd HA.out (by simp [cadenceref4_Level.j4])
               | succ kj18 =>
                have H:=HA.out
                clear HA
                simp only [cadenceref4_Level.j4] at H
                by_cases c25:x62_18=true
                ·subst c25
                 have H1:(if 0≤x9_3 then (if x9_3 < (((rd_T33 l0 a1).f0).length:Int) then (if 0≤x10_4 then (if x10_4 < (((rd_T40 ((rd_T33 l0 a1).f0) x9_3).f0.f1).length:Int) then ((cadenceref4_has.f kj18 l2 (rdOf ByteArray.empty ((rd_T40 ((rd_T33 l0 a1).f0) x9_3).f0.f1) x10_4)).bind fun t325=>(if t325=true then (cadenceref4_Level.l2 kj18 l2 x9_3 (wrap64 (x10_4+1)) ((rd_T33 l0 a1).f0) ((rd_T33 l0 a1).f1) ((rd_T33 l0 a1).f2)) else (some false))) else (none)) else (none)) else (none)) else (none))=some r:=by rw [if_pos rfl] at H;exact H
                 clear H
                 have H:=H1
                 clear H1
                 by_cases c26:0≤x9_3
                 ·rw [if_pos c26] at H
                  have c26b0:decide (0≤x9_3)=true:=decide_eq_true c26
                  clear c26
                  by_cases c27:x9_3 < (((rd_T33 l0 a1).f0).length:Int)
                  ·rw [if_pos c27] at H
                   have c27b0:decide (x9_3 < (((rd_T33 l0 a1).f0).length:Int))=true:=decide_eq_true c27
                   clear c27
                   by_cases c28:0≤x10_4
                   ·rw [if_pos c28] at H
                    have c28b0:decide (0≤x10_4)=true:=decide_eq_true c28
                    clear c28
                    by_cases c29:x10_4 < (((rd_T40 ((rd_T33 l0 a1).f0) x9_3).f0.f1).length:Int)
                    ·rw [if_pos c29] at H
                     have c29b0:decide (x10_4 < (((rd_T40 ((rd_T33 l0 a1).f0) x9_3).f0.f1).length:Int))=true:=decide_eq_true c29
                     clear c29
                     replace H:=Option.bind_eq_some_iff.mp H
                     obtain ⟨t325,A300,H⟩:=H
                     replace H:(if t325=true then (cadenceref4_Level.l2 kj18 l2 x9_3 (wrap64 (x10_4+1)) ((rd_T33 l0 a1).f0) ((rd_T33 l0 a1).f1) ((rd_T33 l0 a1).f2)) else (some false))=some r:=H
                     have A30:=Aside0.mk A300
                     clear A300
                     by_cases c31:t325=true
                     ·subst c31
                      have H1:(cadenceref4_Level.l2 kj18 l2 x9_3 (wrap64 (x10_4+1)) ((rd_T33 l0 a1).f0) ((rd_T33 l0 a1).f1) ((rd_T33 l0 a1).f2))=some r:=by rw [if_pos rfl] at H;exact H
                      clear H
                      have H:=H1
                      clear H1
                      have H':=Aside0.mk H
                      clear H
                      have hcz32_0:wc.cell? ⟨gb318,0,none⟩=some (.slice A317_0 ((rd_T33 l0 a1).f0).length c317_0):=(blk_cell BK318.out 0).trans rfl
                      have hcz32_1:wc.cell? ⟨gb318,1,none⟩=some (.bool ((rd_T33 l0 a1).f1)):=(blk_cell BK318.out 1).trans rfl
                      have hcz32_2:wc.cell? ⟨gb318,2,none⟩=some (.bool ((rd_T33 l0 a1).f2)):=(blk_cell BK318.out 2).trans rfl
                      have hfz32_0:=blk_frozen BK318.out 0
                      have hfz32_1:=blk_frozen BK318.out 1
                      have hfz32_2:=blk_frozen BK318.out 2
                      have p323:0≤(x9_3:Int):=of_decide_eq_true (by first|(with_reducible assumption)|assumption)
                      have q323:x9_3 < (((rd_T33 l0 a1).f0).length:Int):=of_decide_eq_true (by first|(with_reducible assumption)|assumption)
                      obtain ⟨ad323,A323_1,c323_1,e323,hx323_0,hx323_1,hx323_2,hx323_3,hl323_1,hi323_1⟩:=at_T40 HR317_0.out x9_3 p323 q323
                      cases e323
                      replace hx323_0:=(HB.out.cell (World.block_lt_of_cell? w _ hx323_0)).trans hx323_0
                      replace hx323_1:=(HB.out.cell (World.block_lt_of_cell? w _ hx323_1)).trans hx323_1
                      replace hx323_2:=(HB.out.cell (World.block_lt_of_cell? w _ hx323_2)).trans hx323_2
                      replace hx323_3:=(HB.out.cell (World.block_lt_of_cell? w _ hx323_3)).trans hx323_3
                      have HR323_1:=Aside0.mk hi323_1
                      have HC323_1:=Aside0.mk hl323_1
                      clear hi323_1 hl323_1
                      replace p323:=eq_true p323
                      replace q323:=eq_true q323
                      have p324:0≤(x10_4:Int):=of_decide_eq_true (by first|(with_reducible assumption)|assumption)
                      have q324:x10_4 < (((rd_T40 ((rd_T33 l0 a1).f0) x9_3).f0.f1).length:Int):=of_decide_eq_true (by first|(with_reducible assumption)|assumption)
                      obtain ⟨ad324,e324,hx324_0⟩:=Kd.at_string HR323_1.out x10_4 p324 q324
                      cases e324
                      replace hx324_0:=(HB.out.cell (World.block_lt_of_cell? w _ hx324_0)).trans hx324_0
                      replace p324:=eq_true p324
                      replace q324:=eq_true q324
                      go_wp2_with (first|((with_reducible refine gate_callee (f:=37) rfl ?_);refine goesL_ (some 76) rfl rfl Try.func37 (by kernel_rfl) rfl #[.slice A2 l2.length c2,.string (rdOf ByteArray.empty ((rd_T40 ((rd_T33 l0 a1).f0) x9_3).f0.f1) x10_4)] rfl (by (try simp only [List.map_toArray,List.map_cons,List.map_nil]);first|done|rfl|(simp only [List.length_drop,List.length_take];rfl)) ?_;(with_reducible refine (cadenceref4_has.calls kj18 _ _ l2 (rdOf ByteArray.empty ((rd_T40 ((rd_T33 l0 a1).f0) x9_3).f0.f1) x10_4) true _ ?side1 ?side2 A30.out).mono ?_);(case side1=>repeat (first|exact (Kd.C_below HR2.out HB.out)|(with_reducible refine cA_ ?_ _)|(with_reducible refine cN_ ?_ _)|(with_reducible refine cD_ ?_)));(case side2=>exact HC2.out);rintro e w' ⟨rfl,⟨nd,rfl⟩⟩;refine ⟨_,rfl,?_⟩))
                      go_roundg kj18
                      case measure=>have:=HJ3.out;have:=HK2.out;have:=HK3.out;have:=HK4.out;have:=HJ18.out;omega
                      case rel=>exact ⟨(wrap64 (x10_4+1)),(by first|rfl|(simp;done)|(simp [*];done)),H',⟨by have:=HJ3.out;have:=HK2.out;have:=HK3.out;have:=HK4.out;have:=HJ18.out;omega⟩,⟨by (with_reducible repeat (first|refine blk_drewN ?_ _|refine blk_drew ?_|refine blk_alloc ?_ _));exact BK318.out⟩,⟨by repeat (first|(with_reducible first|exact HB.out|apply bA_|apply bN_|apply bD_|refine below_set ?_ GE318.out)|exact HB.out)⟩⟩
                     ·replace c31:=Bool.eq_false_iff.mpr c31
                      subst c31
                      have H1:(some false)=some r:=by rw [if_neg (show ¬ (false=true) by decide)] at H;exact H
                      clear H
                      have H:=H1
                      clear H1
                      obtain rfl:=Option.some.inj H
                      have hcz33_0:wc.cell? ⟨gb318,0,none⟩=some (.slice A317_0 ((rd_T33 l0 a1).f0).length c317_0):=(blk_cell BK318.out 0).trans rfl
                      have hcz33_1:wc.cell? ⟨gb318,1,none⟩=some (.bool ((rd_T33 l0 a1).f1)):=(blk_cell BK318.out 1).trans rfl
                      have hcz33_2:wc.cell? ⟨gb318,2,none⟩=some (.bool ((rd_T33 l0 a1).f2)):=(blk_cell BK318.out 2).trans rfl
                      have hfz33_0:=blk_frozen BK318.out 0
                      have hfz33_1:=blk_frozen BK318.out 1
                      have hfz33_2:=blk_frozen BK318.out 2
                      have p323:0≤(x9_3:Int):=of_decide_eq_true (by first|(with_reducible assumption)|assumption)
                      have q323:x9_3 < (((rd_T33 l0 a1).f0).length:Int):=of_decide_eq_true (by first|(with_reducible assumption)|assumption)
                      obtain ⟨ad323,A323_1,c323_1,e323,hx323_0,hx323_1,hx323_2,hx323_3,hl323_1,hi323_1⟩:=at_T40 HR317_0.out x9_3 p323 q323
                      cases e323
                      replace hx323_0:=(HB.out.cell (World.block_lt_of_cell? w _ hx323_0)).trans hx323_0
                      replace hx323_1:=(HB.out.cell (World.block_lt_of_cell? w _ hx323_1)).trans hx323_1
                      replace hx323_2:=(HB.out.cell (World.block_lt_of_cell? w _ hx323_2)).trans hx323_2
                      replace hx323_3:=(HB.out.cell (World.block_lt_of_cell? w _ hx323_3)).trans hx323_3
                      have HR323_1:=Aside0.mk hi323_1
                      have HC323_1:=Aside0.mk hl323_1
                      clear hi323_1 hl323_1
                      replace p323:=eq_true p323
                      replace q323:=eq_true q323
                      have p324:0≤(x10_4:Int):=of_decide_eq_true (by first|(with_reducible assumption)|assumption)
                      have q324:x10_4 < (((rd_T40 ((rd_T33 l0 a1).f0) x9_3).f0.f1).length:Int):=of_decide_eq_true (by first|(with_reducible assumption)|assumption)
                      obtain ⟨ad324,e324,hx324_0⟩:=Kd.at_string HR323_1.out x10_4 p324 q324
                      cases e324
                      replace hx324_0:=(HB.out.cell (World.block_lt_of_cell? w _ hx324_0)).trans hx324_0
                      replace p324:=eq_true p324
                      replace q324:=eq_true q324
                      go_wp2_with (first|((with_reducible refine gate_callee (f:=37) rfl ?_);refine goesL_ (some 76) rfl rfl Try.func37 (by kernel_rfl) rfl #[.slice A2 l2.length c2,.string (rdOf ByteArray.empty ((rd_T40 ((rd_T33 l0 a1).f0) x9_3).f0.f1) x10_4)] rfl (by (try simp only [List.map_toArray,List.map_cons,List.map_nil]);first|done|rfl|(simp only [List.length_drop,List.length_take];rfl)) ?_;(with_reducible refine (cadenceref4_has.calls kj18 _ _ l2 (rdOf ByteArray.empty ((rd_T40 ((rd_T33 l0 a1).f0) x9_3).f0.f1) x10_4) false _ ?side1 ?side2 A30.out).mono ?_);(case side1=>repeat (first|exact (Kd.C_below HR2.out HB.out)|(with_reducible refine cA_ ?_ _)|(with_reducible refine cN_ ?_ _)|(with_reducible refine cD_ ?_)));(case side2=>exact HC2.out);rintro e w' ⟨rfl,⟨nd,rfl⟩⟩;refine ⟨_,rfl,?_⟩))
                      go_ret
                      exact ⟨by first|rfl|(simp [errW_none,errW_some] <;> rfl)|(simp [*,errW_none,errW_some] <;> rfl),by repeat (first|(with_reducible first|exact HB.out|apply bA_|apply bN_|apply bD_|refine below_set ?_ GE318.out)|exact HB.out)⟩
                    ·rw [if_neg c29] at H
                     exact absurd H (by simp)
                   ·rw [if_neg c28] at H
                    exact absurd H (by simp)
                  ·rw [if_neg c27] at H
                   exact absurd H (by simp)
                 ·rw [if_neg c26] at H
                  exact absurd H (by simp)
                ·replace c25:=Bool.eq_false_iff.mpr c25
                 subst c25
                 have H1:(cadenceref4_Level.l1 kj18 l2 (wrap64 (x9_3+1)) ((rd_T33 l0 a1).f0) ((rd_T33 l0 a1).f1) ((rd_T33 l0 a1).f2))=some r:=by rw [if_neg (show ¬ (false=true) by decide)] at H;exact H
                 clear H
                 have H:=H1
                 clear H1
                 have H':=Aside0.mk H
                 clear H
                 go_wp2
                 go_roundg kj18
                 case measure=>have:=HJ3.out;have:=HK2.out;have:=HK3.out;have:=HK4.out;have:=HJ18.out;omega
                 case rel=>exact ⟨(wrap64 (x9_3+1)),(by first|rfl|(simp;done)|(simp [*];done)),H',⟨by have:=HJ3.out;have:=HK2.out;have:=HK3.out;have:=HK4.out;have:=HJ18.out;omega⟩,⟨by (with_reducible repeat (first|refine blk_drewN ?_ _|refine blk_drew ?_|refine blk_alloc ?_ _));exact BK318.out⟩,⟨by repeat (first|(with_reducible first|exact HB.out|apply bA_|apply bN_|apply bD_|refine below_set ?_ GE318.out)|exact HB.out)⟩⟩
           ·rw [if_neg c17] at H
            have c17b0:decide (x9_3 < (((rd_T33 l0 a1).f0).length:Int))=false:=decide_eq_false c17
            clear c17
            by_cases c34:((rd_T33 l0 a1).f1)=true
            ·rw [if_pos c34] at H
             have c34b0:((rd_T33 l0 a1).f1)=true:=c34
             clear c34
             by_cases c35:(l2.length:Int)=1
             ·rw [if_pos c35] at H
              have c35b0:((l2.length:Int) == 1)=true:=beq_iff_eq.mpr c35
              have c35b1:((l2.length:Int) != 1)=false:=bne_eq_false_iff_eq.mpr c35
              clear c35
              by_cases c36:((rd_T33 l0 a1).f2)=true
              ·rw [if_pos c36] at H
               have c36b0:((rd_T33 l0 a1).f2)=true:=c36
               clear c36
               obtain rfl:=Option.some.inj H
               have hcz37_0:wr.cell? ⟨gb318,0,none⟩=some (.slice A317_0 ((rd_T33 l0 a1).f0).length c317_0):=(blk_cell BK318.out 0).trans rfl
               have hcz37_1:wr.cell? ⟨gb318,1,none⟩=some (.bool ((rd_T33 l0 a1).f1)):=(blk_cell BK318.out 1).trans rfl
               have hcz37_2:wr.cell? ⟨gb318,2,none⟩=some (.bool ((rd_T33 l0 a1).f2)):=(blk_cell BK318.out 2).trans rfl
               have hfz37_0:=blk_frozen BK318.out 0
               have hfz37_1:=blk_frozen BK318.out 1
               have hfz37_2:=blk_frozen BK318.out 2
               go_wp2
               go_ret
               exact ⟨by first|rfl|(simp [errW_none,errW_some] <;> rfl)|(simp [*,errW_none,errW_some] <;> rfl),by repeat (first|(with_reducible first|exact HB.out|apply bA_|apply bN_|apply bD_|refine below_set ?_ GE318.out)|exact HB.out)⟩
              ·rw [if_neg c36] at H
               have c36b0:((rd_T33 l0 a1).f2)=false:=by simpa using c36
               clear c36
               obtain rfl:=Option.some.inj H
               have hcz38_0:wr.cell? ⟨gb318,0,none⟩=some (.slice A317_0 ((rd_T33 l0 a1).f0).length c317_0):=(blk_cell BK318.out 0).trans rfl
               have hcz38_1:wr.cell? ⟨gb318,1,none⟩=some (.bool ((rd_T33 l0 a1).f1)):=(blk_cell BK318.out 1).trans rfl
               have hcz38_2:wr.cell? ⟨gb318,2,none⟩=some (.bool ((rd_T33 l0 a1).f2)):=(blk_cell BK318.out 2).trans rfl
               have hfz38_0:=blk_frozen BK318.out 0
               have hfz38_1:=blk_frozen BK318.out 1
               have hfz38_2:=blk_frozen BK318.out 2
               go_wp2
               go_ret
               exact ⟨by first|rfl|(simp [errW_none,errW_some] <;> rfl)|(simp [*,errW_none,errW_some] <;> rfl),by repeat (first|(with_reducible first|exact HB.out|apply bA_|apply bN_|apply bD_|refine below_set ?_ GE318.out)|exact HB.out)⟩
             ·rw [if_neg c35] at H
              have c35b0:((l2.length:Int) == 1)=false:=beq_eq_false_iff_ne.mpr c35
              have c35b1:((l2.length:Int) != 1)=true:=bne_iff_ne.mpr c35
              obtain rfl:=Option.some.inj H
              have hcz39_0:wr.cell? ⟨gb318,0,none⟩=some (.slice A317_0 ((rd_T33 l0 a1).f0).length c317_0):=(blk_cell BK318.out 0).trans rfl
              have hcz39_1:wr.cell? ⟨gb318,1,none⟩=some (.bool ((rd_T33 l0 a1).f1)):=(blk_cell BK318.out 1).trans rfl
              have hcz39_2:wr.cell? ⟨gb318,2,none⟩=some (.bool ((rd_T33 l0 a1).f2)):=(blk_cell BK318.out 2).trans rfl
              have hfz39_0:=blk_frozen BK318.out 0
              have hfz39_1:=blk_frozen BK318.out 1
              have hfz39_2:=blk_frozen BK318.out 2
              go_wp2
              go_ret
              exact ⟨by first|rfl|(simp [errW_none,errW_some] <;> rfl)|(simp [*,errW_none,errW_some] <;> rfl),by repeat (first|(with_reducible first|exact HB.out|apply bA_|apply bN_|apply bD_|refine below_set ?_ GE318.out)|exact HB.out)⟩
            ·rw [if_neg c34] at H
             have c34b0:((rd_T33 l0 a1).f1)=false:=by simpa using c34
             clear c34
             by_cases c40:((rd_T33 l0 a1).f2)=true
             ·rw [if_pos c40] at H
              have c40b0:((rd_T33 l0 a1).f2)=true:=c40
              clear c40
              obtain rfl:=Option.some.inj H
              have hcz41_0:wr.cell? ⟨gb318,0,none⟩=some (.slice A317_0 ((rd_T33 l0 a1).f0).length c317_0):=(blk_cell BK318.out 0).trans rfl
              have hcz41_1:wr.cell? ⟨gb318,1,none⟩=some (.bool ((rd_T33 l0 a1).f1)):=(blk_cell BK318.out 1).trans rfl
              have hcz41_2:wr.cell? ⟨gb318,2,none⟩=some (.bool ((rd_T33 l0 a1).f2)):=(blk_cell BK318.out 2).trans rfl
              have hfz41_0:=blk_frozen BK318.out 0
              have hfz41_1:=blk_frozen BK318.out 1
              have hfz41_2:=blk_frozen BK318.out 2
              go_wp2
              go_ret
              exact ⟨by first|rfl|(simp [errW_none,errW_some] <;> rfl)|(simp [*,errW_none,errW_some] <;> rfl),by repeat (first|(with_reducible first|exact HB.out|apply bA_|apply bN_|apply bD_|refine below_set ?_ GE318.out)|exact HB.out)⟩
             ·rw [if_neg c40] at H
              have c40b0:((rd_T33 l0 a1).f2)=false:=by simpa using c40
              clear c40
              obtain rfl:=Option.some.inj H
              have hcz42_0:wr.cell? ⟨gb318,0,none⟩=some (.slice A317_0 ((rd_T33 l0 a1).f0).length c317_0):=(blk_cell BK318.out 0).trans rfl
              have hcz42_1:wr.cell? ⟨gb318,1,none⟩=some (.bool ((rd_T33 l0 a1).f1)):=(blk_cell BK318.out 1).trans rfl
              have hcz42_2:wr.cell? ⟨gb318,2,none⟩=some (.bool ((rd_T33 l0 a1).f2)):=(blk_cell BK318.out 2).trans rfl
              have hfz42_0:=blk_frozen BK318.out 0
              have hfz42_1:=blk_frozen BK318.out 1
              have hfz42_2:=blk_frozen BK318.out 2
              go_wp2
              go_ret
              exact ⟨by first|rfl|(simp [errW_none,errW_some] <;> rfl)|(simp [*,errW_none,errW_some] <;> rfl),by repeat (first|(with_reducible first|exact HB.out|apply bA_|apply bN_|apply bD_|refine below_set ?_ GE318.out)|exact HB.out)⟩
     ·rw [if_neg c8] at H
      exact absurd H (by simp)
    ·rw [if_neg c7] at H
     exact absurd H (by simp)
end Go.Proofs.Ytoihiehoolehiaa.PX
namespace Go.Proofs.Ytoihiehoolehiaa.PX
open Go.RowKit Go.Proofs.YtoihiehoolehiaaW.PrintWords Go.Proofs.YtoihiehoolehiaaW.PrintLast Go.Proofs.YtoihiehoolehiaaW.PrintMore
attribute [local go_sem] max2_int min2_int max_two min_two max_three min_three max_four min_four   
set_option linter.unusedVariables false
set_option linter.unusedSimpArgs false
mutual
def cadenceref4_Fits.l0:Nat→List (S33)→Int→List (S53)→Int→Option (Bool)
 | 0,_,_,_,_=>none
 | k+1,x0,x1,x2,x7=>if x7 < (x2.length:Int) then (if 0≤x7 then ((cadenceref4_To.f k x0 x1 ((rd_T53 x2 x7).f0)).bind fun t328=>((cadenceref4_Fits.f k x0 t328 ((rd_T53 x2 x7).f1)).bind fun t330=>(if t330=true then (cadenceref4_Fits.l0 k x0 x1 x2 (wrap64 (x7+1))) else (some false)))) else (none)) else (some true)
def cadenceref4_Fits.f:Nat→List (S33)→Int→List (S53)→Option (Bool)
 | 0,_,_,_=>none
 | k+1,l0,a1,l2=>(cadenceref4_Level.f k l0 a1 l2).bind fun t326=>(if t326=true then (cadenceref4_Fits.l0 k l0 a1 l2 0) else (some false))
end
theorem cadenceref4_Fits.mono_l:∀ k,(∀ y0 y1 y2,LeO (cadenceref4_Fits.f k y0 y1 y2) (cadenceref4_Fits.f (k+1) y0 y1 y2))∧(∀ y0 y1 y2 y3,LeO (cadenceref4_Fits.l0 k y0 y1 y2 y3) (cadenceref4_Fits.l0 (k+1) y0 y1 y2 y3))
 | 0=>⟨fun _ _ _ r h=>by simp [cadenceref4_Fits.f] at h,fun _ _ _ _ r h=>by simp [cadenceref4_Fits.l0] at h⟩
 | k+1=>by
  obtain ⟨ih0,ih1⟩:=cadenceref4_Fits.mono_l k
  refine ⟨?_,?_⟩
  ·intro y0 y1 y2
   unfold cadenceref4_Fits.f
   repeat' first
   | (with_reducible exact ih0 _ _ _)
   | (with_reducible exact ih1 _ _ _ _)
   | (with_reducible exact cadenceref4_Level.mono _ _ _ _)
   | (with_reducible exact cadenceref4_To.mono _ _ _ _)
   | (with_reducible exact LeO.refl _)
   | (with_reducible exact LeO.none _)
   | (with_reducible refine LeO.ite ?_ ?_)
   | (with_reducible refine LeO.bind ?_ (fun _=>?_))
   | exact ih0 _ _ _
   | exact ih1 _ _ _ _
   | exact cadenceref4_Level.mono _ _ _ _
   | exact cadenceref4_To.mono _ _ _ _
   | exact LeO.none _
   | refine LeO.ite ?_ ?_
   | refine LeO.bind ?_ (fun _=>?_)
  ·intro y0 y1 y2 y3
   unfold cadenceref4_Fits.l0
   repeat' first
   | (with_reducible exact ih0 _ _ _)
   | (with_reducible exact ih1 _ _ _ _)
   | (with_reducible exact cadenceref4_Level.mono _ _ _ _)
   | (with_reducible exact cadenceref4_To.mono _ _ _ _)
   | (with_reducible exact LeO.refl _)
   | (with_reducible exact LeO.none _)
   | (with_reducible refine LeO.ite ?_ ?_)
   | (with_reducible refine LeO.bind ?_ (fun _=>?_))
   | exact ih0 _ _ _
   | exact ih1 _ _ _ _
   | exact cadenceref4_Level.mono _ _ _ _
   | exact cadenceref4_To.mono _ _ _ _
   | exact LeO.none _
   | refine LeO.ite ?_ ?_
   | refine LeO.bind ?_ (fun _=>?_)
theorem cadenceref4_Fits.mono:∀ a0 a1 a2 k,LeO (cadenceref4_Fits.f k a0 a1 a2) (cadenceref4_Fits.f (k+1) a0 a1 a2):=by
 intro a0 a1 a2 k
 obtain ⟨ih0,ih1⟩:=cadenceref4_Fits.mono_l k
 exact ih0 a0 a1 a2
def cadenceref4_Fits.T6:Bool × List (List Nat × List Nat):=(true,[([],[]),([],[]),([],[]),([],[]),([],[]),([3,4],[3,4]),([5],[5]),([6],[6]),([1,2,7],[1,2,7]),([],[]),([],[]),([9,10],[9,10]),([11],[11]),([12],[12]),([0,8,13,8],[0,8,13]),([14],[14])])
def cadenceref4_Fits.B6:List Nat:=[0,0,0,0,0,24,56,120,254,0,0,1536,3584,7680,16383,32767]
theorem cadenceref4_Fits.tab6:rtab .any (opsOf Try.f19 6)=cadenceref4_Fits.T6:=by kernel_rfl
theorem cadenceref4_Fits.bits6:waitsOk cadenceref4_Fits.T6.2 cadenceref4_Fits.B6=true:=by kernel_rfl
set_option maxHeartbeats 8000000 in
set_option maxRecDepth 100000 in
theorem cadenceref4_Fits.calls (k:Nat):∀ (A0:Option Addr) (c0:Nat) (l0:List (S33)) (a1:Int) (A2:Option Addr) (c2:Nat) (l2:List (S53)) (r:Bool) (w:World) (hr0:Kd.C k33 w A0 l0.length l0) (hc0:l0.length≤c0) (hr2:Kd.C k53 w A2 l2.length l2) (hc2:l2.length≤c2) (h:cadenceref4_Fits.f k l0 a1 l2=some r),
  Calls Try.prog 19 #[.slice A0 l0.length c0,.int .i64 a1,.slice A2 l2.length c2] w fun e w'=>e=.returned (.bool r)∧Below w.heap.size w w':=by
 induction k using Nat.strongRecOn with
 | _ k ih =>
 intro A0 c0 l0 a1 A2 c2 l2 r w hr0 hc0 hr2 hc2 h
 cases k with
 | zero=>exact absurd h (by simp [cadenceref4_Fits.f])
 | succ k =>
 simp only [cadenceref4_Fits.f] at h
 have HR0:=Aside0.mk hr0
 have HC0:=Aside0.mk hc0
 clear hr0 hc0
 have HR2:=Aside0.mk hr2
 have HC2:=Aside0.mk hc2
 clear hr2 hc2
 have HB:=Aside0.mk (Below.refl w.heap.size w)
 have H:((cadenceref4_Level.f k l0 a1 l2).bind fun t326=>(if t326=true then (cadenceref4_Fits.l0 k l0 a1 l2 0) else (some false)))=some r:=h
 clear h
 replace H:=Option.bind_eq_some_iff.mp H
 obtain ⟨t326,A40,H⟩:=H
 replace H:(if t326=true then (cadenceref4_Fits.l0 k l0 a1 l2 0) else (some false))=some r:=H
 have A4:=Aside0.mk A40
 clear A40
 by_cases c5:t326=true
 ·subst c5
  have H1:(cadenceref4_Fits.l0 k l0 a1 l2 0)=some r:=by rw [if_pos rfl] at H;exact H
  clear H
  have H:=H1
  clear H1
  have H':=Aside0.mk H
  clear H
  go_enter Try.func19,Try.ntmps19
  go_wp2_with (first|((with_reducible refine gate_callee (f:=17) rfl ?_);refine goesL_ (some 11) rfl rfl Try.func17 (by kernel_rfl) rfl #[.slice A0 l0.length c0,.int .i64 a1,.slice A2 l2.length c2] rfl (by (try simp only [List.map_toArray,List.map_cons,List.map_nil]);first|done|rfl|(simp only [List.length_drop,List.length_take];rfl)) ?_;(with_reducible refine (cadenceref4_Level.calls k _ _ l0 a1 _ _ l2 true _ ?side1 ?side2 ?side3 ?side4 A4.out).mono ?_);(case side1=>repeat (first|exact HR0.out|(with_reducible refine cA_ ?_ _)|(with_reducible refine cN_ ?_ _)|(with_reducible refine cD_ ?_)));(case side2=>exact HC0.out);(case side3=>repeat (first|exact HR2.out|(with_reducible refine cA_ ?_ _)|(with_reducible refine cN_ ?_ _)|(with_reducible refine cD_ ?_)));(case side4=>exact HC2.out);rintro e w6 ⟨rfl,hb⟩;refine ⟨_,rfl,?_⟩;have n0_:=Aside0.mk (below_step (by repeat (first|(with_reducible first|exact HB.out|apply bA_|apply bN_|apply bD_)|exact HB.out)) hb);clear HB;have HB:=n0_;clear n0_;(try clear hb);(try clear hb2);(try clear hk);(try clear hi)))
  go_loopg [7] k (fun kq v7 w'=>∃ (x7_1:Int),v7=.int .i64 x7_1∧Aside0 (cadenceref4_Fits.l0 kq l0 a1 l2 x7_1=some r)∧Aside0 (kq≤k)∧Aside0 (Below w.heap.size w w'))
  case atStart=>exact ⟨(0),(by first|rfl|(simp;done)|(simp [*];done)),H',⟨Nat.le_refl _⟩,⟨by repeat (first|(with_reducible first|exact HB.out|apply bA_|apply bN_|apply bD_)|exact HB.out)⟩⟩
  case round =>
   clear H'
   try clear c1
   try clear c2
   try clear p2
   try clear c5
   obtain ⟨x7_1,rfl,HA,HK1,HB⟩:=hrel
   cases gk with
   | zero=>exact absurd HA.out (by simp [cadenceref4_Fits.l0])
   | succ k1 =>
    have H:=HA.out
    clear HA
    simp only [cadenceref4_Fits.l0] at H
    by_cases c7:x7_1 < (l2.length:Int)
    ·rw [if_pos c7] at H
     have c7b0:decide (x7_1 < (l2.length:Int))=true:=decide_eq_true c7
     clear c7
     by_cases c8:0≤x7_1
     ·rw [if_pos c8] at H
      have c8b0:decide (0≤x7_1)=true:=decide_eq_true c8
      clear c8
      replace H:=Option.bind_eq_some_iff.mp H
      obtain ⟨t328,A90,H⟩:=H
      replace H:((cadenceref4_Fits.f k1 l0 t328 ((rd_T53 l2 x7_1).f1)).bind fun t330=>(if t330=true then (cadenceref4_Fits.l0 k1 l0 a1 l2 (wrap64 (x7_1+1))) else (some false)))=some r:=H
      have A9:=Aside0.mk A90
      clear A90
      replace H:=Option.bind_eq_some_iff.mp H
      obtain ⟨t330,A100,H⟩:=H
      replace H:(if t330=true then (cadenceref4_Fits.l0 k1 l0 a1 l2 (wrap64 (x7_1+1))) else (some false))=some r:=H
      have A10:=Aside0.mk A100
      clear A100
      by_cases c11:t330=true
      ·subst c11
       have H1:(cadenceref4_Fits.l0 k1 l0 a1 l2 (wrap64 (x7_1+1)))=some r:=by rw [if_pos rfl] at H;exact H
       clear H
       have H:=H1
       clear H1
       have H':=Aside0.mk H
       clear H
       try go_wp2
       have n0_:=Aside0.mk (bD_ HB.out)
       clear HB
       have HB:=n0_
       clear n0_
       have p327:0≤(x7_1:Int):=of_decide_eq_true (by first|(with_reducible assumption)|assumption)
       have q327:x7_1 < (l2.length:Int):=of_decide_eq_true (by first|(with_reducible assumption)|assumption)
       obtain ⟨ad327,A327_1,c327_1,e327,hx327_0,hx327_1,hl327_1,hi327_1⟩:=at_T53 HR2.out x7_1 p327 q327
       have hw327_1:=hx327_1
       have hw327_0:=hx327_0
       cases e327
       replace hx327_0:=(HB.out.cell (World.block_lt_of_cell? w _ hx327_0)).trans hx327_0
       replace hx327_1:=(HB.out.cell (World.block_lt_of_cell? w _ hx327_1)).trans hx327_1
       have HR327_1:=Aside0.mk hi327_1
       have HC327_1:=Aside0.mk hl327_1
       clear hi327_1 hl327_1
       replace p327:=eq_true p327
       replace q327:=eq_true q327
       have p329:0≤(x7_1:Int):=of_decide_eq_true (by first|(with_reducible assumption)|assumption)
       have q329:x7_1 < (l2.length:Int):=of_decide_eq_true (by first|(with_reducible assumption)|assumption)
       obtain ⟨ad329,A329_1,c329_1,e329,hx329_0,hx329_1,hl329_1,hi329_1⟩:=at_T53 HR2.out x7_1 p329 q329
       have hw329_1:=hx329_1
       have hw329_0:=hx329_0
       obtain rfl:ad327=ad329:=(by injection e329)
       replace hx329_0:=(HB.out.cell (World.block_lt_of_cell? w _ hx329_0)).trans hx329_0
       replace hx329_1:=(HB.out.cell (World.block_lt_of_cell? w _ hx329_1)).trans hx329_1
       have HR329_1:=Aside0.mk hi329_1
       have HC329_1:=Aside0.mk hl329_1
       clear hi329_1 hl329_1
       replace p329:=eq_true p329
       replace q329:=eq_true q329
       have ea_:=Option.some.inj (hx327_1.symm.trans hx329_1)
       injection ea_ with ea_ en_ ec_
       subst ea_
       subst ec_
       clear en_
       refine start_ (n:=16) (S:=fun w'=>w'.cell? (ad327.add ((x7_1).toNat * 2))=some (.string ((rd_T53 l2 x7_1).f0))∧w'.cell? ⟨(ad327.add ((x7_1).toNat * 2)).block,(ad327.add ((x7_1).toNat * 2)).off+1,none⟩=some (.slice A327_1 ((rd_T53 l2 x7_1).f1).length c327_1)∧w'.cell? (ad327.add ((x7_1).toNat * 2))=some (.string ((rd_T53 l2 x7_1).f0))∧w'.cell? ⟨(ad327.add ((x7_1).toNat * 2)).block,(ad327.add ((x7_1).toNat * 2)).off+1,none⟩=some (.slice A327_1 ((rd_T53 l2 x7_1).f1).length c327_1)) (ds:=[]) #[false,false,false,false,false,false,false,false,false,false,false,false,false,false,false,false] (by kernel_rfl) rfl rfl ⟨((HB.out.cell (World.block_lt_of_cell? w _ hw327_0)).trans hw327_0),((HB.out.cell (World.block_lt_of_cell? w _ hw327_1)).trans hw327_1),((HB.out.cell (World.block_lt_of_cell? w _ hw329_0)).trans hw329_0),((HB.out.cell (World.block_lt_of_cell? w _ hw329_1)).trans hw329_1)⟩ (fun hHeld=>?_);refine with_tabW cadenceref4_Fits.tab6 cadenceref4_Fits.bits6 (fun HT_ HW_=>?_)
       generalize wr.drew=w12 at HB HR327_1 HR329_1 hx327_0 hx327_1 hx329_0 hx329_1 hHeld ⊢
       refine pure_ (i:=0) (N:=some 19) (v:=?_) (a':=?_) #[true,false,false,false,false,false,false,false,false,false,false,false,false,false,false,false] rfl rfl (any_of HT_.out (by kernel_rfl)) (fun _ _ _ h=>h) (Or.inl ⟨by rfl,?_⟩) ?_ ?_
       rotate_left
       ·intro w'
        go_simp
        with_reducible rfl
       rotate_left
       ·simp only [Act.put,List.setIfInBounds_toArray,List.set_cons_zero,List.set_cons_succ,i64_w,i32_w]
        rfl
       refine pure_ (i:=1) (N:=some 20) (v:=?_) (a':=?_) #[true,true,false,false,false,false,false,false,false,false,false,false,false,false,false,false] rfl rfl (any_of HT_.out (by kernel_rfl)) (fun _ _ _ h=>h) (Or.inl ⟨by rfl,?_⟩) ?_ ?_
       rotate_left
       ·intro w'
        go_simp
        with_reducible rfl
       rotate_left
       ·simp only [Act.put,List.setIfInBounds_toArray,List.set_cons_zero,List.set_cons_succ,i64_w,i32_w]
        rfl
       refine pure_ (i:=2) (N:=some 21) (v:=?_) (a':=?_) #[true,true,true,false,false,false,false,false,false,false,false,false,false,false,false,false] rfl rfl (any_of HT_.out (by kernel_rfl)) (fun _ _ _ h=>h) (Or.inl ⟨by rfl,?_⟩) ?_ ?_
       rotate_left
       ·intro w'
        go_simp
        with_reducible rfl
       rotate_left
       ·simp only [Act.put,List.setIfInBounds_toArray,List.set_cons_zero,List.set_cons_succ,i64_w,i32_w]
        rfl
       refine pure_ (i:=3) (N:=some 22) (v:=?_) (a':=?_) #[true,true,true,true,false,false,false,false,false,false,false,false,false,false,false,false] rfl rfl (any_of HT_.out (by kernel_rfl)) (fun _ _ _ h=>h) (Or.inl ⟨by rfl,?_⟩) ?_ ?_
       rotate_left
       ·intro w'
        go_simp
        with_reducible rfl
       rotate_left
       ·simp only [Act.put,List.setIfInBounds_toArray,List.set_cons_zero,List.set_cons_succ,i64_w,i32_w]
        rfl
       refine pure_ (i:=4) (N:=some 23) (v:=?_) (a':=?_) #[true,true,true,true,true,false,false,false,false,false,false,false,false,false,false,false] rfl rfl (any_of HT_.out (by kernel_rfl)) (fun _ _ _ h=>h) (Or.inl ⟨by rfl,?_⟩) ?_ ?_
       rotate_left
       ·intro w'
        go_simp
        with_reducible rfl
       rotate_left
       ·simp only [Act.put,List.setIfInBounds_toArray,List.set_cons_zero,List.set_cons_succ,i64_w,i32_w]
        rfl
       refine pure_ (i:=5) (N:=some 24) (v:=?_) (a':=?_) #[true,true,true,true,true,true,false,false,false,false,false,false,false,false,false,false] rfl rfl (any_of HT_.out (by kernel_rfl)) (fun _ _ _ h=>h) (Or.inl ⟨by rfl,?_⟩) ?_ ?_
       rotate_left
       ·intro w'
        go_simp
        with_reducible rfl
       rotate_left
       ·simp only [Act.put,List.setIfInBounds_toArray,List.set_cons_zero,List.set_cons_succ,i64_w,i32_w]
        rfl
       refine pure_ (i:=6) (N:=some 25) (v:=?_) (a':=?_) #[true,true,true,true,true,true,true,false,false,false,false,false,false,false,false,false] rfl rfl (any_of HT_.out (by kernel_rfl)) (fun _ _ _ h=>h) (Or.inl ⟨by rfl,?_⟩) ?_ ?_
       rotate_left
       ·intro w'
        go_simp
        with_reducible rfl
       rotate_left
       ·simp only [Act.put,List.setIfInBounds_toArray,List.set_cons_zero,List.set_cons_succ,i64_w,i32_w]
        rfl
       refine pure_ (i:=9) (N:=some 28) (v:=?_) (a':=?_) #[true,true,true,true,true,true,true,false,false,true,false,false,false,false,false,false] rfl rfl (any_of HT_.out (by kernel_rfl)) (fun _ _ _ h=>h) (Or.inl ⟨by rfl,?_⟩) ?_ ?_
       rotate_left
       ·intro w'
        go_simp
        with_reducible rfl
       rotate_left
       ·simp only [Act.put,List.setIfInBounds_toArray,List.set_cons_zero,List.set_cons_succ,i64_w,i32_w]
        rfl
       refine pure_ (i:=10) (N:=some 29) (v:=?_) (a':=?_) #[true,true,true,true,true,true,true,false,false,true,true,false,false,false,false,false] rfl rfl (any_of HT_.out (by kernel_rfl)) (fun _ _ _ h=>h) (Or.inl ⟨by rfl,?_⟩) ?_ ?_
       rotate_left
       ·intro w'
        go_simp
        with_reducible rfl
       rotate_left
       ·simp only [Act.put,List.setIfInBounds_toArray,List.set_cons_zero,List.set_cons_succ,i64_w,i32_w]
        rfl
       refine pure_ (i:=11) (N:=some 30) (v:=?_) (a':=?_) #[true,true,true,true,true,true,true,false,false,true,true,true,false,false,false,false] rfl rfl (any_of HT_.out (by kernel_rfl)) (fun _ _ _ h=>h) (Or.inl ⟨by rfl,?_⟩) ?_ ?_
       rotate_left
       ·intro w'
        go_simp
        with_reducible rfl
       rotate_left
       ·simp only [Act.put,List.setIfInBounds_toArray,List.set_cons_zero,List.set_cons_succ,i64_w,i32_w]
        rfl
       refine pure_ (i:=12) (N:=some 31) (v:=?_) (a':=?_) #[true,true,true,true,true,true,true,false,false,true,true,true,true,false,false,false] rfl rfl (any_of HT_.out (by kernel_rfl)) (fun _ _ _ h=>h) (Or.inl ⟨by rfl,?_⟩) ?_ ?_
       rotate_left
       ·intro w'
        go_simp
        with_reducible rfl
       rotate_left
       ·simp only [Act.put,List.setIfInBounds_toArray,List.set_cons_zero,List.set_cons_succ,i64_w,i32_w]
        rfl
       refine take_ (i:=7) (N:=some 26) (v:=?_) (a':=?_) #[true,true,true,true,true,true,true,true,false,true,true,true,true,false,false,false] rfl rfl (take_ofW HT_.out HW_.out (by kernel_rfl)) (fun _ _ _ h=>h) (Or.inl ⟨by rfl,?_⟩) hHeld ?_ ?_
       rotate_left
       ·rintro w' ⟨s0,s1,s2,s3⟩
        go_simp
        with_reducible rfl
       rotate_left
       ·simp only [Act.put,List.setIfInBounds_toArray,List.set_cons_zero,List.set_cons_succ,i64_w,i32_w]
        rfl
       refine take_ (i:=13) (N:=some 32) (v:=?_) (a':=?_) #[true,true,true,true,true,true,true,true,false,true,true,true,true,true,false,false] rfl rfl (take_ofW HT_.out HW_.out (by kernel_rfl)) (fun _ _ _ h=>h) (Or.inl ⟨by rfl,?_⟩) hHeld ?_ ?_
       rotate_left
       ·rintro w' ⟨s0,s1,s2,s3⟩
        go_simp
        with_reducible rfl
       rotate_left
       ·simp only [Act.put,List.setIfInBounds_toArray,List.set_cons_zero,List.set_cons_succ,i64_w,i32_w]
        rfl
       refine one_ (i:=8) (N:=some 27) #[true,true,true,true,true,true,true,true,true,true,true,true,true,true,false,false] rfl rfl (one_of HT_.out (by kernel_rfl)) (by decide) (fun K hK=>?_)
       refine goes_ Try.func21 (by kernel_rfl) rfl #[.slice A0 l0.length c0,.int .i64 a1,.string ((rd_T53 l2 x7_1).f0)] (by rfl) rfl rfl (by (try simp only [List.map_toArray,List.map_cons,List.map_nil]);first|done|rfl|(simp only [List.length_drop,List.length_take];rfl)) ?_
       with_reducible refine (cadenceref4_To.calls k1 _ _ l0 a1 ((rd_T53 l2 x7_1).f0) t328 _ ?side1 ?side2 A9.out).mono ?_
       (case side1=>repeat (first|exact (Kd.C_below HR0.out HB.out)|(with_reducible refine cA_ ?_ _)|(with_reducible refine cN_ ?_ _)|(with_reducible refine cD_ ?_)))
       (case side2=>exact HC0.out)
       rintro e w13 ⟨rfl,hb⟩
       refine ⟨_,rfl,?_⟩
       have n0_:=Aside0.mk (below_step (by repeat (first|(with_reducible first|exact HB.out|apply bA_|apply bN_|apply bD_)|exact HB.out)) hb)
       clear HB
       have HB:=n0_
       clear n0_
       (try clear hb)
       (try clear hb2)
       (try clear hk)
       (try clear hi)
       refine hK.out _ _ ⟨((HB.out.cell (World.block_lt_of_cell? w _ hw327_0)).trans hw327_0),((HB.out.cell (World.block_lt_of_cell? w _ hw327_1)).trans hw327_1),((HB.out.cell (World.block_lt_of_cell? w _ hw329_0)).trans hw329_0),((HB.out.cell (World.block_lt_of_cell? w _ hw329_1)).trans hw329_1)⟩ (fun hHeld=>?_)
       clear hK K
       refine norm_ (a':=?_) ?_ ?_
       rotate_left
       ·show Act.put _ (some 27) _=_
        simp only [Act.put,List.setIfInBounds_toArray,List.set_cons_zero,List.set_cons_succ,i64_w,i32_w]
        rfl
       refine one_ (i:=14) (N:=some 33) #[true,true,true,true,true,true,true,true,true,true,true,true,true,true,true,false] rfl rfl (one_of HT_.out (by kernel_rfl)) (by decide) (fun K hK=>?_)
       refine goes_ Try.func19 (by kernel_rfl) rfl #[.slice A0 l0.length c0,.int .i64 t328,.slice A327_1 ((rd_T53 l2 x7_1).f1).length c327_1] (by rfl) rfl rfl (by (try simp only [List.map_toArray,List.map_cons,List.map_nil]);first|done|rfl|(simp only [List.length_drop,List.length_take];rfl)) ?_
       with_reducible refine (ih k1 (by have:=HK1.out;omega) _ _ l0 t328 _ _ ((rd_T53 l2 x7_1).f1) true _ ?side1 ?side2 ?side3 ?side4 A10.out).mono ?_
       (case side1=>repeat (first|exact (Kd.C_below HR0.out HB.out)|(with_reducible refine cA_ ?_ _)|(with_reducible refine cN_ ?_ _)|(with_reducible refine cD_ ?_)))
       (case side2=>exact HC0.out)
       (case side3=>repeat (first|exact (Kd.C_below HR329_1.out HB.out)|(with_reducible refine cA_ ?_ _)|(with_reducible refine cN_ ?_ _)|(with_reducible refine cD_ ?_)))
       (case side4=>exact HC329_1.out)
       rintro e w14 ⟨rfl,hb⟩
       refine ⟨_,rfl,?_⟩
       have n0_:=Aside0.mk (below_step (by repeat (first|(with_reducible first|exact HB.out|apply bA_|apply bN_|apply bD_)|exact HB.out)) hb)
       clear HB
       have HB:=n0_
       clear n0_
       (try clear hb)
       (try clear hb2)
       (try clear hk)
       (try clear hi)
       refine hK.out _ _ ⟨((HB.out.cell (World.block_lt_of_cell? w _ hw327_0)).trans hw327_0),((HB.out.cell (World.block_lt_of_cell? w _ hw327_1)).trans hw327_1),((HB.out.cell (World.block_lt_of_cell? w _ hw329_0)).trans hw329_0),((HB.out.cell (World.block_lt_of_cell? w _ hw329_1)).trans hw329_1)⟩ (fun hHeld=>?_)
       clear hK K
       refine norm_ (a':=?_) ?_ ?_
       rotate_left
       ·show Act.put _ (some 33) _=_
        simp only [Act.put,List.setIfInBounds_toArray,List.set_cons_zero,List.set_cons_succ,i64_w,i32_w]
        rfl
       refine pure_ (i:=15) (N:=some 34) (v:=?_) (a':=?_) #[true,true,true,true,true,true,true,true,true,true,true,true,true,true,true,true] rfl rfl (any_of HT_.out (by kernel_rfl)) (fun _ _ _ h=>h) (Or.inl ⟨by rfl,?_⟩) ?_ ?_
       rotate_left
       ·intro w'
        go_simp
        with_reducible rfl
       rotate_left
       ·simp only [Act.put,List.setIfInBounds_toArray,List.set_cons_zero,List.set_cons_succ,i64_w,i32_w]
        rfl
       refine done_ (done_of HT_.out (by kernel_rfl)) ?_
       try go_wp2
       go_roundg k1
       case measure=>have:=HK1.out;omega
       case rel=>exact ⟨(wrap64 (x7_1+1)),(by first|rfl|(simp;done)|(simp [*];done)),H',⟨by have:=HK1.out;omega⟩,⟨by repeat (first|(with_reducible first|exact HB.out|apply bA_|apply bN_|apply bD_)|exact HB.out)⟩⟩
      ·replace c11:=Bool.eq_false_iff.mpr c11
       subst c11
       have H1:(some false)=some r:=by rw [if_neg (show ¬ (false=true) by decide)] at H;exact H
       clear H
       have H:=H1
       clear H1
       obtain rfl:=Option.some.inj H
       try go_wp2
       have n0_:=Aside0.mk (bD_ HB.out)
       clear HB
       have HB:=n0_
       clear n0_
       have p327:0≤(x7_1:Int):=of_decide_eq_true (by first|(with_reducible assumption)|assumption)
       have q327:x7_1 < (l2.length:Int):=of_decide_eq_true (by first|(with_reducible assumption)|assumption)
       obtain ⟨ad327,A327_1,c327_1,e327,hx327_0,hx327_1,hl327_1,hi327_1⟩:=at_T53 HR2.out x7_1 p327 q327
       have hw327_1:=hx327_1
       have hw327_0:=hx327_0
       cases e327
       replace hx327_0:=(HB.out.cell (World.block_lt_of_cell? w _ hx327_0)).trans hx327_0
       replace hx327_1:=(HB.out.cell (World.block_lt_of_cell? w _ hx327_1)).trans hx327_1
       have HR327_1:=Aside0.mk hi327_1
       have HC327_1:=Aside0.mk hl327_1
       clear hi327_1 hl327_1
       replace p327:=eq_true p327
       replace q327:=eq_true q327
       have p329:0≤(x7_1:Int):=of_decide_eq_true (by first|(with_reducible assumption)|assumption)
       have q329:x7_1 < (l2.length:Int):=of_decide_eq_true (by first|(with_reducible assumption)|assumption)
       obtain ⟨ad329,A329_1,c329_1,e329,hx329_0,hx329_1,hl329_1,hi329_1⟩:=at_T53 HR2.out x7_1 p329 q329
       have hw329_1:=hx329_1
       have hw329_0:=hx329_0
       obtain rfl:ad327=ad329:=(by injection e329)
       replace hx329_0:=(HB.out.cell (World.block_lt_of_cell? w _ hx329_0)).trans hx329_0
       replace hx329_1:=(HB.out.cell (World.block_lt_of_cell? w _ hx329_1)).trans hx329_1
       have HR329_1:=Aside0.mk hi329_1
       have HC329_1:=Aside0.mk hl329_1
       clear hi329_1 hl329_1
       replace p329:=eq_true p329
       replace q329:=eq_true q329
       have ea_:=Option.some.inj (hx327_1.symm.trans hx329_1)
       injection ea_ with ea_ en_ ec_
       subst ea_
       subst ec_
       clear en_
       refine start_ (n:=16) (S:=fun w'=>w'.cell? (ad327.add ((x7_1).toNat * 2))=some (.string ((rd_T53 l2 x7_1).f0))∧w'.cell? ⟨(ad327.add ((x7_1).toNat * 2)).block,(ad327.add ((x7_1).toNat * 2)).off+1,none⟩=some (.slice A327_1 ((rd_T53 l2 x7_1).f1).length c327_1)∧w'.cell? (ad327.add ((x7_1).toNat * 2))=some (.string ((rd_T53 l2 x7_1).f0))∧w'.cell? ⟨(ad327.add ((x7_1).toNat * 2)).block,(ad327.add ((x7_1).toNat * 2)).off+1,none⟩=some (.slice A327_1 ((rd_T53 l2 x7_1).f1).length c327_1)) (ds:=[]) #[false,false,false,false,false,false,false,false,false,false,false,false,false,false,false,false] (by kernel_rfl) rfl rfl ⟨((HB.out.cell (World.block_lt_of_cell? w _ hw327_0)).trans hw327_0),((HB.out.cell (World.block_lt_of_cell? w _ hw327_1)).trans hw327_1),((HB.out.cell (World.block_lt_of_cell? w _ hw329_0)).trans hw329_0),((HB.out.cell (World.block_lt_of_cell? w _ hw329_1)).trans hw329_1)⟩ (fun hHeld=>?_);refine with_tabW cadenceref4_Fits.tab6 cadenceref4_Fits.bits6 (fun HT_ HW_=>?_)
       generalize wr.drew=w15 at HB HR327_1 HR329_1 hx327_0 hx327_1 hx329_0 hx329_1 hHeld ⊢
       refine pure_ (i:=0) (N:=some 19) (v:=?_) (a':=?_) #[true,false,false,false,false,false,false,false,false,false,false,false,false,false,false,false] rfl rfl (any_of HT_.out (by kernel_rfl)) (fun _ _ _ h=>h) (Or.inl ⟨by rfl,?_⟩) ?_ ?_
       rotate_left
       ·intro w'
        go_simp
        with_reducible rfl
       rotate_left
       ·simp only [Act.put,List.setIfInBounds_toArray,List.set_cons_zero,List.set_cons_succ,i64_w,i32_w]
        rfl
       refine pure_ (i:=1) (N:=some 20) (v:=?_) (a':=?_) #[true,true,false,false,false,false,false,false,false,false,false,false,false,false,false,false] rfl rfl (any_of HT_.out (by kernel_rfl)) (fun _ _ _ h=>h) (Or.inl ⟨by rfl,?_⟩) ?_ ?_
       rotate_left
       ·intro w'
        go_simp
        with_reducible rfl
       rotate_left
       ·simp only [Act.put,List.setIfInBounds_toArray,List.set_cons_zero,List.set_cons_succ,i64_w,i32_w]
        rfl
       refine pure_ (i:=2) (N:=some 21) (v:=?_) (a':=?_) #[true,true,true,false,false,false,false,false,false,false,false,false,false,false,false,false] rfl rfl (any_of HT_.out (by kernel_rfl)) (fun _ _ _ h=>h) (Or.inl ⟨by rfl,?_⟩) ?_ ?_
       rotate_left
       ·intro w'
        go_simp
        with_reducible rfl
       rotate_left
       ·simp only [Act.put,List.setIfInBounds_toArray,List.set_cons_zero,List.set_cons_succ,i64_w,i32_w]
        rfl
       refine pure_ (i:=3) (N:=some 22) (v:=?_) (a':=?_) #[true,true,true,true,false,false,false,false,false,false,false,false,false,false,false,false] rfl rfl (any_of HT_.out (by kernel_rfl)) (fun _ _ _ h=>h) (Or.inl ⟨by rfl,?_⟩) ?_ ?_
       rotate_left
       ·intro w'
        go_simp
        with_reducible rfl
       rotate_left
       ·simp only [Act.put,List.setIfInBounds_toArray,List.set_cons_zero,List.set_cons_succ,i64_w,i32_w]
        rfl
       refine pure_ (i:=4) (N:=some 23) (v:=?_) (a':=?_) #[true,true,true,true,true,false,false,false,false,false,false,false,false,false,false,false] rfl rfl (any_of HT_.out (by kernel_rfl)) (fun _ _ _ h=>h) (Or.inl ⟨by rfl,?_⟩) ?_ ?_
       rotate_left
       ·intro w'
        go_simp
        with_reducible rfl
       rotate_left
       ·simp only [Act.put,List.setIfInBounds_toArray,List.set_cons_zero,List.set_cons_succ,i64_w,i32_w]
        rfl
       refine pure_ (i:=5) (N:=some 24) (v:=?_) (a':=?_) #[true,true,true,true,true,true,false,false,false,false,false,false,false,false,false,false] rfl rfl (any_of HT_.out (by kernel_rfl)) (fun _ _ _ h=>h) (Or.inl ⟨by rfl,?_⟩) ?_ ?_
       rotate_left
       ·intro w'
        go_simp
        with_reducible rfl
       rotate_left
       ·simp only [Act.put,List.setIfInBounds_toArray,List.set_cons_zero,List.set_cons_succ,i64_w,i32_w]
        rfl
       refine pure_ (i:=6) (N:=some 25) (v:=?_) (a':=?_) #[true,true,true,true,true,true,true,false,false,false,false,false,false,false,false,false] rfl rfl (any_of HT_.out (by kernel_rfl)) (fun _ _ _ h=>h) (Or.inl ⟨by rfl,?_⟩) ?_ ?_
       rotate_left
       ·intro w'
        go_simp
        with_reducible rfl
       rotate_left
       ·simp only [Act.put,List.setIfInBounds_toArray,List.set_cons_zero,List.set_cons_succ,i64_w,i32_w]
        rfl
       refine pure_ (i:=9) (N:=some 28) (v:=?_) (a':=?_) #[true,true,true,true,true,true,true,false,false,true,false,false,false,false,false,false] rfl rfl (any_of HT_.out (by kernel_rfl)) (fun _ _ _ h=>h) (Or.inl ⟨by rfl,?_⟩) ?_ ?_
       rotate_left
       ·intro w'
        go_simp
        with_reducible rfl
       rotate_left
       ·simp only [Act.put,List.setIfInBounds_toArray,List.set_cons_zero,List.set_cons_succ,i64_w,i32_w]
        rfl
       refine pure_ (i:=10) (N:=some 29) (v:=?_) (a':=?_) #[true,true,true,true,true,true,true,false,false,true,true,false,false,false,false,false] rfl rfl (any_of HT_.out (by kernel_rfl)) (fun _ _ _ h=>h) (Or.inl ⟨by rfl,?_⟩) ?_ ?_
       rotate_left
       ·intro w'
        go_simp
        with_reducible rfl
       rotate_left
       ·simp only [Act.put,List.setIfInBounds_toArray,List.set_cons_zero,List.set_cons_succ,i64_w,i32_w]
        rfl
       refine pure_ (i:=11) (N:=some 30) (v:=?_) (a':=?_) #[true,true,true,true,true,true,true,false,false,true,true,true,false,false,false,false] rfl rfl (any_of HT_.out (by kernel_rfl)) (fun _ _ _ h=>h) (Or.inl ⟨by rfl,?_⟩) ?_ ?_
       rotate_left
       ·intro w'
        go_simp
        with_reducible rfl
       rotate_left
       ·simp only [Act.put,List.setIfInBounds_toArray,List.set_cons_zero,List.set_cons_succ,i64_w,i32_w]
        rfl
       refine pure_ (i:=12) (N:=some 31) (v:=?_) (a':=?_) #[true,true,true,true,true,true,true,false,false,true,true,true,true,false,false,false] rfl rfl (any_of HT_.out (by kernel_rfl)) (fun _ _ _ h=>h) (Or.inl ⟨by rfl,?_⟩) ?_ ?_
       rotate_left
       ·intro w'
        go_simp
        with_reducible rfl
       rotate_left
       ·simp only [Act.put,List.setIfInBounds_toArray,List.set_cons_zero,List.set_cons_succ,i64_w,i32_w]
        rfl
       refine take_ (i:=7) (N:=some 26) (v:=?_) (a':=?_) #[true,true,true,true,true,true,true,true,false,true,true,true,true,false,false,false] rfl rfl (take_ofW HT_.out HW_.out (by kernel_rfl)) (fun _ _ _ h=>h) (Or.inl ⟨by rfl,?_⟩) hHeld ?_ ?_
       rotate_left
       ·rintro w' ⟨s0,s1,s2,s3⟩
        go_simp
        with_reducible rfl
       rotate_left
       ·simp only [Act.put,List.setIfInBounds_toArray,List.set_cons_zero,List.set_cons_succ,i64_w,i32_w]
        rfl
       refine take_ (i:=13) (N:=some 32) (v:=?_) (a':=?_) #[true,true,true,true,true,true,true,true,false,true,true,true,true,true,false,false] rfl rfl (take_ofW HT_.out HW_.out (by kernel_rfl)) (fun _ _ _ h=>h) (Or.inl ⟨by rfl,?_⟩) hHeld ?_ ?_
       rotate_left
       ·rintro w' ⟨s0,s1,s2,s3⟩
        go_simp
        with_reducible rfl
       rotate_left
       ·simp only [Act.put,List.setIfInBounds_toArray,List.set_cons_zero,List.set_cons_succ,i64_w,i32_w]
        rfl
       refine one_ (i:=8) (N:=some 27) #[true,true,true,true,true,true,true,true,true,true,true,true,true,true,false,false] rfl rfl (one_of HT_.out (by kernel_rfl)) (by decide) (fun K hK=>?_)
       refine goes_ Try.func21 (by kernel_rfl) rfl #[.slice A0 l0.length c0,.int .i64 a1,.string ((rd_T53 l2 x7_1).f0)] (by rfl) rfl rfl (by (try simp only [List.map_toArray,List.map_cons,List.map_nil]);first|done|rfl|(simp only [List.length_drop,List.length_take];rfl)) ?_
       with_reducible refine (cadenceref4_To.calls k1 _ _ l0 a1 ((rd_T53 l2 x7_1).f0) t328 _ ?side1 ?side2 A9.out).mono ?_
       (case side1=>repeat (first|exact (Kd.C_below HR0.out HB.out)|(with_reducible refine cA_ ?_ _)|(with_reducible refine cN_ ?_ _)|(with_reducible refine cD_ ?_)))
       (case side2=>exact HC0.out)
       rintro e w16 ⟨rfl,hb⟩
       refine ⟨_,rfl,?_⟩
       have n0_:=Aside0.mk (below_step (by repeat (first|(with_reducible first|exact HB.out|apply bA_|apply bN_|apply bD_)|exact HB.out)) hb)
       clear HB
       have HB:=n0_
       clear n0_
       (try clear hb)
       (try clear hb2)
       (try clear hk)
       (try clear hi)
       refine hK.out _ _ ⟨((HB.out.cell (World.block_lt_of_cell? w _ hw327_0)).trans hw327_0),((HB.out.cell (World.block_lt_of_cell? w _ hw327_1)).trans hw327_1),((HB.out.cell (World.block_lt_of_cell? w _ hw329_0)).trans hw329_0),((HB.out.cell (World.block_lt_of_cell? w _ hw329_1)).trans hw329_1)⟩ (fun hHeld=>?_)
       clear hK K
       refine norm_ (a':=?_) ?_ ?_
       rotate_left
       ·show Act.put _ (some 27) _=_
        simp only [Act.put,List.setIfInBounds_toArray,List.set_cons_zero,List.set_cons_succ,i64_w,i32_w]
        rfl
       refine one_ (i:=14) (N:=some 33) #[true,true,true,true,true,true,true,true,true,true,true,true,true,true,true,false] rfl rfl (one_of HT_.out (by kernel_rfl)) (by decide) (fun K hK=>?_)
       refine goes_ Try.func19 (by kernel_rfl) rfl #[.slice A0 l0.length c0,.int .i64 t328,.slice A327_1 ((rd_T53 l2 x7_1).f1).length c327_1] (by rfl) rfl rfl (by (try simp only [List.map_toArray,List.map_cons,List.map_nil]);first|done|rfl|(simp only [List.length_drop,List.length_take];rfl)) ?_
       with_reducible refine (ih k1 (by have:=HK1.out;omega) _ _ l0 t328 _ _ ((rd_T53 l2 x7_1).f1) false _ ?side1 ?side2 ?side3 ?side4 A10.out).mono ?_
       (case side1=>repeat (first|exact (Kd.C_below HR0.out HB.out)|(with_reducible refine cA_ ?_ _)|(with_reducible refine cN_ ?_ _)|(with_reducible refine cD_ ?_)))
       (case side2=>exact HC0.out)
       (case side3=>repeat (first|exact (Kd.C_below HR329_1.out HB.out)|(with_reducible refine cA_ ?_ _)|(with_reducible refine cN_ ?_ _)|(with_reducible refine cD_ ?_)))
       (case side4=>exact HC329_1.out)
       rintro e w17 ⟨rfl,hb⟩
       refine ⟨_,rfl,?_⟩
       have n0_:=Aside0.mk (below_step (by repeat (first|(with_reducible first|exact HB.out|apply bA_|apply bN_|apply bD_)|exact HB.out)) hb)
       clear HB
       have HB:=n0_
       clear n0_
       (try clear hb)
       (try clear hb2)
       (try clear hk)
       (try clear hi)
       refine hK.out _ _ ⟨((HB.out.cell (World.block_lt_of_cell? w _ hw327_0)).trans hw327_0),((HB.out.cell (World.block_lt_of_cell? w _ hw327_1)).trans hw327_1),((HB.out.cell (World.block_lt_of_cell? w _ hw329_0)).trans hw329_0),((HB.out.cell (World.block_lt_of_cell? w _ hw329_1)).trans hw329_1)⟩ (fun hHeld=>?_)
       clear hK K
       refine norm_ (a':=?_) ?_ ?_
       rotate_left
       ·show Act.put _ (some 33) _=_
        simp only [Act.put,List.setIfInBounds_toArray,List.set_cons_zero,List.set_cons_succ,i64_w,i32_w]
        rfl
       refine pure_ (i:=15) (N:=some 34) (v:=?_) (a':=?_) #[true,true,true,true,true,true,true,true,true,true,true,true,true,true,true,true] rfl rfl (any_of HT_.out (by kernel_rfl)) (fun _ _ _ h=>h) (Or.inl ⟨by rfl,?_⟩) ?_ ?_
       rotate_left
       ·intro w'
        go_simp
        with_reducible rfl
       rotate_left
       ·simp only [Act.put,List.setIfInBounds_toArray,List.set_cons_zero,List.set_cons_succ,i64_w,i32_w]
        rfl
       refine done_ (done_of HT_.out (by kernel_rfl)) ?_
       try go_wp2
       go_ret
       exact ⟨by first|rfl|(simp [errW_none,errW_some] <;> rfl)|(simp [*,errW_none,errW_some] <;> rfl),by repeat (first|(with_reducible first|exact HB.out|apply bA_|apply bN_|apply bD_)|exact HB.out)⟩
     ·rw [if_neg c8] at H
      exact absurd H (by simp)
    ·rw [if_neg c7] at H
     have c7b0:decide (x7_1 < (l2.length:Int))=false:=decide_eq_false c7
     clear c7
     obtain rfl:=Option.some.inj H
     go_wp2
     go_ret
     exact ⟨by first|rfl|(simp [errW_none,errW_some] <;> rfl)|(simp [*,errW_none,errW_some] <;> rfl),by repeat (first|(with_reducible first|exact HB.out|apply bA_|apply bN_|apply bD_)|exact HB.out)⟩
 ·replace c5:=Bool.eq_false_iff.mpr c5
  subst c5
  have H1:(some false)=some r:=by rw [if_neg (show ¬ (false=true) by decide)] at H;exact H
  clear H
  have H:=H1
  clear H1
  obtain rfl:=Option.some.inj H
  go_enter Try.func19,Try.ntmps19
  go_wp2_with (first|((with_reducible refine gate_callee (f:=17) rfl ?_);refine goesL_ (some 11) rfl rfl Try.func17 (by kernel_rfl) rfl #[.slice A0 l0.length c0,.int .i64 a1,.slice A2 l2.length c2] rfl (by (try simp only [List.map_toArray,List.map_cons,List.map_nil]);first|done|rfl|(simp only [List.length_drop,List.length_take];rfl)) ?_;(with_reducible refine (cadenceref4_Level.calls k _ _ l0 a1 _ _ l2 false _ ?side1 ?side2 ?side3 ?side4 A4.out).mono ?_);(case side1=>repeat (first|exact HR0.out|(with_reducible refine cA_ ?_ _)|(with_reducible refine cN_ ?_ _)|(with_reducible refine cD_ ?_)));(case side2=>exact HC0.out);(case side3=>repeat (first|exact HR2.out|(with_reducible refine cA_ ?_ _)|(with_reducible refine cN_ ?_ _)|(with_reducible refine cD_ ?_)));(case side4=>exact HC2.out);rintro e w18 ⟨rfl,hb⟩;refine ⟨_,rfl,?_⟩;have n0_:=Aside0.mk (below_step (by repeat (first|(with_reducible first|exact HB.out|apply bA_|apply bN_|apply bD_)|exact HB.out)) hb);clear HB;have HB:=n0_;clear n0_;(try clear hb);(try clear hb2);(try clear hk);(try clear hi)))
  go_ret
  exact ⟨by first|rfl|(simp [errW_none,errW_some] <;> rfl)|(simp [*,errW_none,errW_some] <;> rfl),by repeat (first|(with_reducible first|exact HB.out|apply bA_|apply bN_|apply bD_)|exact HB.out)⟩
end Go.Proofs.Ytoihiehoolehiaa.PX
set_option linter.unusedVariables false
set_option linter.unusedSimpArgs false
namespace Go.Proofs.Ytoihiehoolehiaa.PX
open Go.RowKit Go.Proofs.YtoihiehoolehiaaW.PrintWords Go.Proofs.YtoihiehoolehiaaW.PrintLast Go.Proofs.YtoihiehoolehiaaW.PrintMore Go.Proofs.Ytoihiehoolehiaa
theorem to4_loop (a:ByteArray) (l:List Fd) (hl:l.length≤1000000000000) (hf:∀ f ∈ l,f.f0.f1.length≤1000000000000):∀ d i,i+d=l.length→Ev (fun k=>cadenceref4_To.l0 k a l (i:Int)) (toN (l.drop i) a):=by
 intro d
 induction d with
 | zero =>
  intro i hi
  rw [List.drop_eq_nil_of_le (by omega)]
  refine Ev.step (f:=fun _=>some (-1)) (fun k=>?_) (Ev.now _)
  rw [cadenceref4_To.l0,if_neg (by omega)]
 | succ d ih =>
  intro i hi
  have hil:i < l.length:=by omega
  rw [List.drop_eq_getElem_cons hil]
  have h1:=has3_ev l[i].f0.f0 l[i].f0.f1 a (hf _ (List.getElem_mem hil))
  have e:∀ k,cadenceref4_To.l0 (k+1) a l (i:Int)=(cadenceref3_Has.f k l[i].f0.f0 l[i].f0.f1 a).bind fun b=>if b=true then some l[i].f1 else cadenceref4_To.l0 k a l ((i+1:Nat):Int):=fun k=>by
   rw [cadenceref4_To.l0,if_pos (by omega),if_pos (by omega),rdF_nat hil,wrap_succ (by omega)]
  refine Ev.step e (Ev.bind h1 ?_)
  have hd:toN (l[i] :: l.drop (i+1)) a=if hasS l[i].f0 a=true then l[i].f1 else toN (l.drop (i+1)) a:=by
   unfold toN
   rw [List.find?_cons]
   cases hasS l[i].f0 a <;> rfl
  rw [hd]
  show Ev (fun k=>if hasS l[i].f0 a=true then _ else _) _
  cases hasS l[i].f0 a with
  | true=>exact Ev.now _
  | false=>exact ih (i+1) (by omega)
theorem to4_ev (s:Sc) (hok:ScOk s) (d:Int) (a:ByteArray):Ev (fun k=>cadenceref4_To.f k s d a) (toM s d a):=by
 by_cases hd:d < 0∨(s.length:Int)≤d
 ·rw [toM,if_pos hd]
  have h1:Ev (fun k=>cadenceref4_To.j0 k s d a true) (-1):=by
   refine Ev.step (f:=fun _=>some (-1)) (fun k=>?_) (Ev.now _)
   rw [cadenceref4_To.j0,if_pos rfl]
  obtain ⟨K,h1⟩:=h1
  refine ⟨K,fun k hk=>?_⟩
  have h1:cadenceref4_To.j0 k s d a true=_:=h1 k hk
  show cadenceref4_To.f k s d a=_
  rw [cadenceref4_To.f]
  by_cases h0:d < 0
  ·rw [if_pos h0,h1]
  ·rw [if_neg h0,decide_eq_true (by omega),h1]
 ·rw [toM,if_neg hd]
  have hmem:=rdD_mem (s:=s) (d:=d) (by omega) (by omega)
  have hdo:=hok.2 _ hmem
  obtain ⟨K,h1⟩:=to4_loop a (rd_T33 s d).f0 hdo.1 hdo.2 _ 0 (Nat.zero_add _)
  refine ⟨K+1,fun k hk=>?_⟩
  obtain ⟨k,rfl⟩:∃ k',k=k'+1:=⟨k - 1,by omega⟩
  have h1:cadenceref4_To.l0 k a (rd_T33 s d).f0 0=some (toN (rd_T33 s d).f0 a):=h1 k (by omega)
  show cadenceref4_To.f (k+1) s d a=_
  rw [cadenceref4_To.f,if_neg (by omega),decide_eq_false (by omega),cadenceref4_To.j0,if_neg Bool.false_ne_true,if_pos (by omega),if_pos (by omega),h1]
theorem has4_ev (t:Tr) (n:ByteArray) (hl:t.length≤1000000000000):Ev (fun k=>cadenceref4_has.f k t n) (hasT t n):=by
 have loop:∀ d i,i+d=t.length→Ev (fun k=>cadenceref4_has.l0 k t n (i:Int)) (hasT (t.drop i) n):=by
  intro d
  induction d with
  | zero =>
   intro i hi
   rw [List.drop_eq_nil_of_le (by omega)]
   refine Ev.step (f:=fun _=>some false) (fun k=>?_) (Ev.now _)
   rw [cadenceref4_has.l0,if_neg (by omega)]
  | succ d ih =>
   intro i hi
   have hil:i < t.length:=by omega
   rw [List.drop_eq_getElem_cons hil]
   by_cases hn:t[i].f0=n
   ·rw [show hasT (t[i] :: t.drop (i+1)) n=true by unfold hasT;rw [List.any_cons,decide_eq_true hn,Bool.true_or]]
    refine Ev.step (f:=fun _=>some true) (fun k=>?_) (Ev.now _)
    rw [cadenceref4_has.l0,if_pos (by omega),if_pos (by omega),rdT_nat hil,if_pos (by rw [hn])]
   ·rw [show hasT (t[i] :: t.drop (i+1)) n=hasT (t.drop (i+1)) n by unfold hasT;rw [List.any_cons,decide_eq_false hn,Bool.false_or]]
    refine Ev.step (fun k=>?_) (ih (i+1) (by omega))
    rw [cadenceref4_has.l0,if_pos (by omega),if_pos (by omega),rdT_nat hil,if_neg (fun h=>hn (tl_inj (by rw [← toList_tl,← toList_tl,h]))),wrap_succ (by omega)]
 exact loop _ 0 (Nat.zero_add _)
section
variable (t:Tr) (hl:t.length≤1000000000000) (fs:List Fd) (one some_:Bool) (hfl:fs.length≤1000000000000) (hf:∀ f ∈ fs,f.f0.f1.length≤1000000000000)
def ends4:Bool:=(!one || decide (t.length=1)) && (!some_ || decide (0 < t.length))
include hl hfl hf
theorem level_l2 (i:Nat) (hi:i < fs.length) (R:Bool) (next:Ev (fun k=>cadenceref4_Level.l1 k t ((i+1:Nat):Int) fs one some_) R) :
  ∀ d j,j+d=fs[i].f0.f1.length→Ev (fun k=>cadenceref4_Level.l2 k t (i:Int) (j:Int) fs one some_) (!(fs[i].f2 && (fs[i].f0.f1.drop j).any fun n=>!hasT t n) && R):=by
 have hfi:=hf _ (List.getElem_mem hi)
 have stop:∀ j,(¬ (j < fs[i].f0.f1.length∧fs[i].f2=true))→Ev (fun k=>cadenceref4_Level.l2 k t (i:Int) (j:Int) fs one some_) R:=by
  intro j hj
  have e1:Ev (fun k=>cadenceref4_Level.j4 k t (i:Int) (j:Int) false fs one some_) R:=by
   refine Ev.step (fun k=>?_) next
   rw [cadenceref4_Level.j4,if_neg Bool.false_ne_true,wrap_succ (by omega)]
  refine Ev.step (fun k=>?_) e1
  rw [cadenceref4_Level.l2,if_pos (by omega),if_pos (by omega),rdF_nat hi]
  by_cases h:j < fs[i].f0.f1.length
  ·have h2:fs[i].f2=false:=by
    cases h3:fs[i].f2 with
    | false=>rfl
    | true=>exact absurd ⟨h,h3⟩ hj
   rw [if_pos (by omega),h2]
  ·rw [if_neg (by omega)]
 intro d
 induction d with
 | zero =>
  intro j hj
  rw [List.drop_eq_nil_of_le (by omega),List.any_nil,Bool.and_false,Bool.not_false,Bool.true_and]
  exact stop j (by omega)
 | succ d ih =>
  intro j hj
  have hjl:j < fs[i].f0.f1.length:=by omega
  cases hN:fs[i].f2 with
  | false =>
   rw [Bool.false_and,Bool.not_false,Bool.true_and]
   exact stop j (by rw [hN];simp)
  | true =>
   have h1:=has4_ev t fs[i].f0.f1[j] hl
   have e1:∀ k,cadenceref4_Level.j4 (k+1) t (i:Int) (j:Int) true fs one some_=(cadenceref4_has.f k t fs[i].f0.f1[j]).bind fun b=>if b=true then cadenceref4_Level.l2 k t (i:Int) ((j+1:Nat):Int) fs one some_ else some false:=fun k=>by
    rw [cadenceref4_Level.j4,if_pos rfl,if_pos (by omega),if_pos (by omega),if_pos (by omega),rdF_nat hi,if_pos (by omega),rdOf_nat hjl,wrap_succ (by omega)]
   rw [List.drop_eq_getElem_cons hjl,List.any_cons,Bool.true_and]
   refine Ev.step (f:=fun k=>cadenceref4_Level.j4 k t (i:Int) (j:Int) true fs one some_) (fun k=>?_) (Ev.step e1 (Ev.bind h1 ?_))
   ·rw [cadenceref4_Level.l2,if_pos (by omega),if_pos (by omega),rdF_nat hi,if_pos (by omega),hN]
   ·cases hasT t fs[i].f0.f1[j] with
    | true =>
     have:=ih (j+1) (by omega)
     rw [hN,Bool.true_and] at this
     rw [Bool.not_true,Bool.false_or]
     exact this
    | false=>exact Ev.now _
theorem level_l1:∀ d i,i+d=fs.length→Ev (fun k=>cadenceref4_Level.l1 k t (i:Int) fs one some_) (!((fs.drop i).any (lacksM t)) && ends4 t one some_):=by
 intro d
 induction d with
 | zero =>
  intro i hi
  rw [List.drop_eq_nil_of_le (by omega),List.any_nil,Bool.not_false,Bool.true_and]
  refine Ev.step (f:=fun _=>some (ends4 t one some_)) (fun k=>?_) (Ev.now _)
  rw [cadenceref4_Level.l1,if_neg (by omega),ends4]
  cases one <;> cases some_ <;> simp
  ·by_cases h:t.length=1
   ·simp [h]
   ·rw [if_neg (by omega),decide_eq_false h]
  ·by_cases h:t.length=1
   ·simp [h]
   ·rw [if_neg (by omega),decide_eq_false h];rfl
 | succ d ih =>
  intro i hi
  have hil:i < fs.length:=by omega
  have h2:=level_l2 t hl fs one some_ hfl hf i hil _ (ih (i+1) (by omega)) _ 0 (Nat.zero_add _)
  rw [List.drop_eq_getElem_cons hil,List.any_cons]
  have hv:(!(lacksM t fs[i] || (fs.drop (i+1)).any (lacksM t)) && ends4 t one some_)=(!(fs[i].f2 && (fs[i].f0.f1.drop 0).any fun n=>!hasT t n) && (!((fs.drop (i+1)).any (lacksM t)) && ends4 t one some_)):=by
   rw [List.drop_zero,Bool.not_or,Bool.and_assoc]
   rfl
  rw [hv]
  refine Ev.step (fun k=>?_) h2
  rw [cadenceref4_Level.l1,if_pos (by omega)]
  rfl
end
theorem level4_ev (s:Sc) (hok:ScOk s) (d:Int) (t:Tr) (hl:t.length≤1000000000000):Ev (fun k=>cadenceref4_Level.f k s d t) (levelM s d t):=by
 by_cases hd:d < 0∨(s.length:Int)≤d
 ·rw [levelM,if_pos hd]
  have h1:Ev (fun k=>cadenceref4_Level.j0 k s d t true) false:=by
   refine Ev.step (f:=fun _=>some false) (fun k=>?_) (Ev.now _)
   rw [cadenceref4_Level.j0,if_pos rfl]
  obtain ⟨K,h1⟩:=h1
  refine ⟨K,fun k hk=>?_⟩
  have h1:cadenceref4_Level.j0 k s d t true=_:=h1 k hk
  show cadenceref4_Level.f k s d t=_
  rw [cadenceref4_Level.f]
  by_cases h0:d < 0
  ·rw [if_pos h0,h1]
  ·rw [if_neg h0,decide_eq_true (by omega),h1]
 ·have hmem:=rdD_mem (s:=s) (d:=d) (by omega) (by omega)
  have hdo:=hok.2 _ hmem
  have loop:∀ m i,i+m=t.length→Ev (fun k=>cadenceref4_Level.l0 k s d t (i:Int) (rd_T33 s d).f0 (rd_T33 s d).f1 (rd_T33 s d).f2) (!((t.drop i).any fun x=>decide (toM s d x.f0 < 0)) && (!((rd_T33 s d).f0.any (lacksM t)) && ends4 t (rd_T33 s d).f1 (rd_T33 s d).f2)):=by
   intro m
   induction m with
   | zero =>
    intro i hi
    rw [List.drop_eq_nil_of_le (by omega),List.any_nil,Bool.not_false,Bool.true_and]
    refine Ev.step (fun k=>?_) (level_l1 t hl (rd_T33 s d).f0 (rd_T33 s d).f1 (rd_T33 s d).f2 hdo.1 hdo.2 _ 0 (Nat.zero_add _))
    rw [cadenceref4_Level.l0,if_neg (by omega)]
    rfl
   | succ m ih =>
    intro i hi
    have hil:i < t.length:=by omega
    have h1:=to4_ev s hok d t[i].f0
    have e:∀ k,cadenceref4_Level.l0 (k+1) s d t (i:Int) (rd_T33 s d).f0 (rd_T33 s d).f1 (rd_T33 s d).f2=(cadenceref4_To.f k s d t[i].f0).bind fun v=>if v < 0 then some false else cadenceref4_Level.l0 k s d t ((i+1:Nat):Int) (rd_T33 s d).f0 (rd_T33 s d).f1 (rd_T33 s d).f2:=fun k=>by
     rw [cadenceref4_Level.l0,if_pos (by omega),if_pos (by omega),rdT_nat hil,wrap_succ (by omega)]
    rw [List.drop_eq_getElem_cons hil,List.any_cons]
    refine Ev.step e (Ev.bind h1 ?_)
    by_cases hv:toM s d t[i].f0 < 0
    ·rw [decide_eq_true hv,Bool.true_or,Bool.not_true,Bool.false_and]
     simp only [if_pos hv]
     exact Ev.now _
    ·rw [decide_eq_false hv,Bool.false_or]
     simp only [if_neg hv]
     exact ih (i+1) (by omega)
  have hv:levelM s d t=(!((t.drop 0).any fun x=>decide (toM s d x.f0 < 0)) && (!((rd_T33 s d).f0.any (lacksM t)) && ends4 t (rd_T33 s d).f1 (rd_T33 s d).f2)):=by
   rw [levelM,if_neg hd,List.drop_zero,ends4]
   generalize (t.any fun x=>decide (toM s d x.f0 < 0))=a
   generalize (rd_T33 s d).f0.any (lacksM t)=b
   generalize (rd_T33 s d).f1=c
   generalize (rd_T33 s d).f2=e
   by_cases h1:t.length=1
   ·cases a <;> cases b <;> cases c <;> cases e <;> simp [h1]
   ·by_cases h0:t.length=0
    ·cases a <;> cases b <;> cases c <;> cases e <;> simp [h0]
    ·rw [decide_eq_false h1,decide_eq_false h0,decide_eq_true (show 0 < t.length by omega)]
     cases a <;> cases b <;> cases c <;> cases e <;> simp
  rw [hv]
  obtain ⟨K,h1⟩:=loop _ 0 (Nat.zero_add _)
  refine ⟨K+1,fun k hk=>?_⟩
  obtain ⟨k,rfl⟩:∃ k',k=k'+1:=⟨k - 1,by omega⟩
  have h1:cadenceref4_Level.l0 k s d t 0 (rd_T33 s d).f0 (rd_T33 s d).f1 (rd_T33 s d).f2=some _:=h1 k (by omega)
  show cadenceref4_Level.f (k+1) s d t=_
  rw [cadenceref4_Level.f,if_neg (by omega),decide_eq_false (by omega),cadenceref4_Level.j0,if_neg Bool.false_ne_true,if_pos (by omega),if_pos (by omega),h1]
theorem fits4_ev (s:Sc) (hok:ScOk s):∀ (N:Nat) (t:Tr),SizeOf.sizeOf t≤N→trOk t=true→∀ d:Int,Ev (fun k=>cadenceref4_Fits.f k s d t) (fitsM s d t)
 | 0,t,hN,_=>by cases t <;> simp at hN
 | N+1,t,hN,ht=>by
  intro d
  obtain ⟨hl,hk⟩:=trOk_len ht
  have loop:∀ m i,i+m=t.length→Ev (fun k=>cadenceref4_Fits.l0 k s d t (i:Int)) ((t.drop i).all fun x=>fitsM s (toM s d x.f0) x.f1):=by
   intro m
   induction m with
   | zero =>
    intro i hi
    rw [List.drop_eq_nil_of_le (by omega)]
    refine Ev.step (f:=fun _=>some true) (fun k=>?_) (Ev.now _)
    rw [cadenceref4_Fits.l0,if_neg (by omega)]
   | succ m ih =>
    intro i hi
    have hil:i < t.length:=by omega
    have hmem:=List.getElem_mem hil
    rw [List.drop_eq_getElem_cons hil,List.all_cons]
    have h0:=to4_ev s hok d t[i].f0
    have h1:=fits4_ev s hok N t[i].f1 (by have:=kids_lt hmem;omega) (hk _ hmem) (toM s d t[i].f0)
    have e:∀ k,cadenceref4_Fits.l0 (k+1) s d t (i:Int)=(cadenceref4_To.f k s d t[i].f0).bind fun v=>(cadenceref4_Fits.f k s v t[i].f1).bind fun b=>if b=true then cadenceref4_Fits.l0 k s d t ((i+1:Nat):Int) else some false:=fun k=>by
     rw [cadenceref4_Fits.l0,if_pos (by omega),if_pos (by omega),rdT_nat hil,wrap_succ (by omega)]
    refine Ev.step e (Ev.bind h0 (Ev.bind h1 ?_))
    cases fitsM s (toM s d t[i].f0) t[i].f1 with
    | true=>exact ih (i+1) (by omega)
    | false=>exact Ev.now _
  rw [fitsM_eq]
  have e:∀ k,cadenceref4_Fits.f (k+1) s d t=(cadenceref4_Level.f k s d t).bind fun b=>if b=true then cadenceref4_Fits.l0 k s d t ((0:Nat):Int) else some false:=fun k=>by
   rw [cadenceref4_Fits.f]
   rfl
  refine Ev.step e (Ev.bind (level4_ev s hok d t hl) ?_)
  cases levelM s d t with
  | true=>exact loop _ 0 (Nat.zero_add _)
  | false=>exact Ev.now _
end Go.Proofs.Ytoihiehoolehiaa.PX
namespace Go.Proofs.Ytoihiehoolehiaa.PX
open Go.RowKit Go.Proofs.YtoihiehoolehiaaW.PrintWords Go.Proofs.YtoihiehoolehiaaW.PrintLast Go.Proofs.YtoihiehoolehiaaW.PrintMore
attribute [local go_sem] max2_int min2_int max_two min_two max_three min_three max_four min_four   
set_option linter.unusedVariables false
set_option linter.unusedSimpArgs false
mutual
def cadencelaw4_SchemaFits.j0:Nat→List (S33)→List (S67)→Int→ByteArray→Bool→Option (Bool)
 | 0,_,_,_,_,_=>none
 | k+1,x0,x1,x2,x3,x21=>if x21=true then (some true) else ((cadencelaw4_Make.f k x0).bind fun t334=>((cadencelaw4_Small.f k x1 6 4).bind fun t337=>(cadencelaw4_SchemaFits.l0 k x2 x3 t334 t337 (-1))))
def cadencelaw4_SchemaFits.l0:Nat→Int→ByteArray→List (S33)→List (S53)→Int→Option (Bool)
 | 0,_,_,_,_,_=>none
 | k+1,x2,x3,x9,x10,x11=>if x11≤(x9.length:Int) then ((schema_Level.f x9 x11 x10).bind fun t342=>((cadenceref4_Level.f k x9 x11 x10).bind fun t343=>(if (t342 != t343)=true then (some false) else ((schema_Fits.f x9 x11 x10).bind fun t344=>((cadenceref4_Fits.f k x9 x11 x10).bind fun t345=>(if (t344 != t345)=true then (some false) else ((schema_To.f x9 x11 x3).bind fun t346=>((cadenceref4_To.f k x9 x11 x3).bind fun t347=>(if t346=t347 then ((schema_To.f x9 x11 (⟨#[97]⟩:ByteArray)).bind fun t348=>((cadenceref4_To.f k x9 x11 (⟨#[97]⟩:ByteArray)).bind fun t349=>(if t348=t349 then (cadencelaw4_SchemaFits.l0 k x2 x3 x9 x10 (wrap64 (x11+1))) else (some false)))) else (some false)))))))))) else ((schema_Fits.f x9 x2 ([]:List (S53))).bind fun t340=>((cadenceref4_Fits.f k x9 x2 ([]:List (S53))).bind fun t341=>(some (t340 == t341))))
end
def cadencelaw4_SchemaFits.f (k:Nat) (l0:List (S33)) (l1:List (S67)) (a2:Int) (a3:ByteArray):Option (Bool):=(cadencelaw4_known.f).bind fun t331=>(if t331=true then ((cadencelaw4_Few.f k l0).bind fun t332=>(if t332=true then ((cadencelaw2_Few.f k l1).bind fun t333=>(cadencelaw4_SchemaFits.j0 k l0 l1 a2 a3 (!t333))) else (cadencelaw4_SchemaFits.j0 k l0 l1 a2 a3 true))) else (some false))
theorem cadencelaw4_SchemaFits.mono_l:∀ k,(∀ y0 y1 y2 y3 y4,LeO (cadencelaw4_SchemaFits.j0 k y0 y1 y2 y3 y4) (cadencelaw4_SchemaFits.j0 (k+1) y0 y1 y2 y3 y4))∧(∀ y0 y1 y2 y3 y4,LeO (cadencelaw4_SchemaFits.l0 k y0 y1 y2 y3 y4) (cadencelaw4_SchemaFits.l0 (k+1) y0 y1 y2 y3 y4))
 | 0=>⟨fun _ _ _ _ _ r h=>by simp [cadencelaw4_SchemaFits.j0] at h,fun _ _ _ _ _ r h=>by simp [cadencelaw4_SchemaFits.l0] at h⟩
 | k+1=>by
  obtain ⟨ih0,ih1⟩:=cadencelaw4_SchemaFits.mono_l k
  refine ⟨?_,?_⟩
  ·intro y0 y1 y2 y3 y4
   unfold cadencelaw4_SchemaFits.j0
   repeat' first
   | (with_reducible exact ih0 _ _ _ _ _)
   | (with_reducible exact ih1 _ _ _ _ _)
   | (with_reducible exact cadencelaw2_Few.mono _ _)
   | (with_reducible exact cadencelaw4_Few.mono _ _)
   | (with_reducible exact cadencelaw4_Make.mono _ _)
   | (with_reducible exact cadencelaw4_Small.mono _ _ _ _)
   | (with_reducible exact cadenceref4_Fits.mono _ _ _ _)
   | (with_reducible exact cadenceref4_Level.mono _ _ _ _)
   | (with_reducible exact cadenceref4_To.mono _ _ _ _)
   | (with_reducible exact LeO.refl _)
   | (with_reducible exact LeO.none _)
   | (with_reducible refine LeO.ite ?_ ?_)
   | (with_reducible refine LeO.bind ?_ (fun _=>?_))
   | exact ih0 _ _ _ _ _
   | exact ih1 _ _ _ _ _
   | exact cadencelaw2_Few.mono _ _
   | exact cadencelaw4_Few.mono _ _
   | exact cadencelaw4_Make.mono _ _
   | exact cadencelaw4_Small.mono _ _ _ _
   | exact cadenceref4_Fits.mono _ _ _ _
   | exact cadenceref4_Level.mono _ _ _ _
   | exact cadenceref4_To.mono _ _ _ _
   | exact LeO.none _
   | refine LeO.ite ?_ ?_
   | refine LeO.bind ?_ (fun _=>?_)
  ·intro y0 y1 y2 y3 y4
   unfold cadencelaw4_SchemaFits.l0
   repeat' first
   | (with_reducible exact ih0 _ _ _ _ _)
   | (with_reducible exact ih1 _ _ _ _ _)
   | (with_reducible exact cadencelaw2_Few.mono _ _)
   | (with_reducible exact cadencelaw4_Few.mono _ _)
   | (with_reducible exact cadencelaw4_Make.mono _ _)
   | (with_reducible exact cadencelaw4_Small.mono _ _ _ _)
   | (with_reducible exact cadenceref4_Fits.mono _ _ _ _)
   | (with_reducible exact cadenceref4_Level.mono _ _ _ _)
   | (with_reducible exact cadenceref4_To.mono _ _ _ _)
   | (with_reducible exact LeO.refl _)
   | (with_reducible exact LeO.none _)
   | (with_reducible refine LeO.ite ?_ ?_)
   | (with_reducible refine LeO.bind ?_ (fun _=>?_))
   | exact ih0 _ _ _ _ _
   | exact ih1 _ _ _ _ _
   | exact cadencelaw2_Few.mono _ _
   | exact cadencelaw4_Few.mono _ _
   | exact cadencelaw4_Make.mono _ _
   | exact cadencelaw4_Small.mono _ _ _ _
   | exact cadenceref4_Fits.mono _ _ _ _
   | exact cadenceref4_Level.mono _ _ _ _
   | exact cadenceref4_To.mono _ _ _ _
   | exact LeO.none _
   | refine LeO.ite ?_ ?_
   | refine LeO.bind ?_ (fun _=>?_)
theorem cadencelaw4_SchemaFits.mono:∀ a0 a1 a2 a3 k,LeO (cadencelaw4_SchemaFits.f k a0 a1 a2 a3) (cadencelaw4_SchemaFits.f (k+1) a0 a1 a2 a3):=by
 intro a0 a1 a2 a3 k
 obtain ⟨ih0,ih1⟩:=cadencelaw4_SchemaFits.mono_l k
 unfold cadencelaw4_SchemaFits.f
 repeat' first
   | (with_reducible exact ih0 _ _ _ _ _)
   | (with_reducible exact ih1 _ _ _ _ _)
   | (with_reducible exact cadencelaw2_Few.mono _ _)
   | (with_reducible exact cadencelaw4_Few.mono _ _)
   | (with_reducible exact cadencelaw4_Make.mono _ _)
   | (with_reducible exact cadencelaw4_Small.mono _ _ _ _)
   | (with_reducible exact cadenceref4_Fits.mono _ _ _ _)
   | (with_reducible exact cadenceref4_Level.mono _ _ _ _)
   | (with_reducible exact cadenceref4_To.mono _ _ _ _)
   | (with_reducible exact LeO.refl _)
   | (with_reducible exact LeO.none _)
   | (with_reducible refine LeO.ite ?_ ?_)
   | (with_reducible refine LeO.bind ?_ (fun _=>?_))
   | exact ih0 _ _ _ _ _
   | exact ih1 _ _ _ _ _
   | exact cadencelaw2_Few.mono _ _
   | exact cadencelaw4_Few.mono _ _
   | exact cadencelaw4_Make.mono _ _
   | exact cadencelaw4_Small.mono _ _ _ _
   | exact cadenceref4_Fits.mono _ _ _ _
   | exact cadenceref4_Level.mono _ _ _ _
   | exact cadenceref4_To.mono _ _ _ _
   | exact LeO.none _
   | refine LeO.ite ?_ ?_
   | refine LeO.bind ?_ (fun _=>?_)
set_option maxHeartbeats 8000000 in
set_option maxRecDepth 100000 in
theorem cadencelaw4_SchemaFits.calls (k:Nat) (A0:Option Addr) (c0:Nat) (l0:List (S33)) (A1:Option Addr) (c1:Nat) (l1:List (S67)) (a2:Int) (a3:ByteArray) (r:Bool) (w:World) (hr0:Kd.C k33 w A0 l0.length l0) (hc0:l0.length≤c0) (hr1:Kd.C k67 w A1 l1.length l1) (hc1:l1.length≤c1) (h:cadencelaw4_SchemaFits.f k l0 l1 a2 a3=some r) :
  Calls Try.prog 4 #[.slice A0 l0.length c0,.slice A1 l1.length c1,.int .i64 a2,.string a3] w fun e w'=>e=.returned (.bool r)∧Below w.heap.size w w':=by
 have HR0:=Aside0.mk hr0
 have HC0:=Aside0.mk hc0
 clear hr0 hc0
 have HR1:=Aside0.mk hr1
 have HC1:=Aside0.mk hc1
 clear hr1 hc1
 have HB:=Aside0.mk (Below.refl w.heap.size w)
 have H:((cadencelaw4_known.f).bind fun t331=>(if t331=true then ((cadencelaw4_Few.f k l0).bind fun t332=>(if t332=true then ((cadencelaw2_Few.f k l1).bind fun t333=>(cadencelaw4_SchemaFits.j0 k l0 l1 a2 a3 (!t333))) else (cadencelaw4_SchemaFits.j0 k l0 l1 a2 a3 true))) else (some false)))=some r:=h
 clear h
 replace H:=Option.bind_eq_some_iff.mp H
 obtain ⟨t331,A50,H⟩:=H
 replace H:(if t331=true then ((cadencelaw4_Few.f k l0).bind fun t332=>(if t332=true then ((cadencelaw2_Few.f k l1).bind fun t333=>(cadencelaw4_SchemaFits.j0 k l0 l1 a2 a3 (!t333))) else (cadencelaw4_SchemaFits.j0 k l0 l1 a2 a3 true))) else (some false))=some r:=H
 have A5:=Aside0.mk A50
 clear A50
 by_cases c6:t331=true
 ·subst c6
  have H1:((cadencelaw4_Few.f k l0).bind fun t332=>(if t332=true then ((cadencelaw2_Few.f k l1).bind fun t333=>(cadencelaw4_SchemaFits.j0 k l0 l1 a2 a3 (!t333))) else (cadencelaw4_SchemaFits.j0 k l0 l1 a2 a3 true)))=some r:=by rw [if_pos rfl] at H;exact H
  clear H
  have H:=H1
  clear H1
  have HC7:=Aside0.mk H
  clear H
  go_enter Try.func4,Try.ntmps4
  go_upto_region 3 with (first|((with_reducible refine gate_callee (f:=8) rfl ?_);refine goesL_ (some 12) rfl rfl Try.func8 (by kernel_rfl) rfl #[] rfl (by (try simp only [List.map_toArray,List.map_cons,List.map_nil]);first|done|rfl|(simp only [List.length_drop,List.length_take];rfl)) ?_;(with_reducible refine (cadencelaw4_known.calls  true _ A5.out).mono ?_);rintro e w8 ⟨rfl,hb⟩;refine ⟨_,rfl,?_⟩;have n0_:=Aside0.mk (below_step (by repeat (first|(with_reducible first|exact HB.out|apply bA_|apply bN_|apply bD_)|exact HB.out)) hb);clear HB;have HB:=n0_;clear n0_;(try clear hb);(try clear hb2);(try clear hk);(try clear hi)))
  (try simp only [Act.put,List.setIfInBounds_toArray,List.set_cons_zero,List.set_cons_succ])
  go_cut [21] (fun v21 wc=>∃ (kq:Nat) (x21_6:Bool),v21=.bool x21_6∧Aside0 (cadencelaw4_SchemaFits.j0 kq l0 l1 a2 a3 x21_6=some r)∧Aside0 (kq≤k)∧Aside0 (Below w.heap.size w wc))
  case first =>
   have H:=HC7.out
   clear HC7
   replace H:=Option.bind_eq_some_iff.mp H
   obtain ⟨t332,A90,H⟩:=H
   replace H:(if t332=true then ((cadencelaw2_Few.f k l1).bind fun t333=>(cadencelaw4_SchemaFits.j0 k l0 l1 a2 a3 (!t333))) else (cadencelaw4_SchemaFits.j0 k l0 l1 a2 a3 true))=some r:=H
   have A9:=Aside0.mk A90
   clear A90
   by_cases c10:t332=true
   ·subst c10
    have H1:((cadencelaw2_Few.f k l1).bind fun t333=>(cadencelaw4_SchemaFits.j0 k l0 l1 a2 a3 (!t333)))=some r:=by rw [if_pos rfl] at H;exact H
    clear H
    have H:=H1
    clear H1
    replace H:=Option.bind_eq_some_iff.mp H
    obtain ⟨t333,A110,H⟩:=H
    replace H:(cadencelaw4_SchemaFits.j0 k l0 l1 a2 a3 (!t333))=some r:=H
    have A11:=Aside0.mk A110
    clear A110
    have H':=Aside0.mk H
    clear H
    go_wp2_with (first|((with_reducible refine gate_callee (f:=9) rfl ?_);refine goesL_ (some 15) rfl rfl Try.func9 (by kernel_rfl) rfl #[.slice A0 l0.length c0] rfl (by (try simp only [List.map_toArray,List.map_cons,List.map_nil]);first|done|rfl|(simp only [List.length_drop,List.length_take];rfl)) ?_;(with_reducible refine (cadencelaw4_Few.calls k _ _ l0 true _ ?side1 ?side2 A9.out).mono ?_);(case side1=>repeat (first|exact (Kd.C_below HR0.out HB.out)|(with_reducible refine cA_ ?_ _)|(with_reducible refine cN_ ?_ _)|(with_reducible refine cD_ ?_)));(case side2=>exact HC0.out);rintro e w' ⟨rfl,⟨nd,rfl⟩⟩;refine ⟨_,rfl,?_⟩)|(go_at_call 14;(with_reducible refine (cadencelaw2_Few.calls k _ _ l1 t333 _ ?side1 ?side2 A11.out).mono ?_);(case side1=>repeat (first|exact (Kd.C_below HR1.out (by repeat (first|(with_reducible first|exact HB.out|apply bA_|apply bN_|apply bD_)|exact HB.out)))|(with_reducible refine cA_ ?_ _)|(with_reducible refine cN_ ?_ _)|(with_reducible refine cD_ ?_)));(case side2=>exact HC1.out);rintro e w' ⟨rfl,⟨nd,rfl⟩⟩))
    go_meet
    case rel=>exact ⟨_,(!t333),(by first|rfl|(simp;done)|(simp [*];done)),H',⟨by first|omega|exact Nat.le_refl _⟩,⟨by repeat (first|(with_reducible first|exact HB.out|apply bA_|apply bN_|apply bD_)|exact HB.out)⟩⟩
   ·replace c10:=Bool.eq_false_iff.mpr c10
    subst c10
    have H1:(cadencelaw4_SchemaFits.j0 k l0 l1 a2 a3 true)=some r:=by rw [if_neg (show ¬ (false=true) by decide)] at H;exact H
    clear H
    have H:=H1
    clear H1
    have H':=Aside0.mk H
    clear H
    go_wp2_with (first|((with_reducible refine gate_callee (f:=9) rfl ?_);refine goesL_ (some 15) rfl rfl Try.func9 (by kernel_rfl) rfl #[.slice A0 l0.length c0] rfl (by (try simp only [List.map_toArray,List.map_cons,List.map_nil]);first|done|rfl|(simp only [List.length_drop,List.length_take];rfl)) ?_;(with_reducible refine (cadencelaw4_Few.calls k _ _ l0 false _ ?side1 ?side2 A9.out).mono ?_);(case side1=>repeat (first|exact (Kd.C_below HR0.out HB.out)|(with_reducible refine cA_ ?_ _)|(with_reducible refine cN_ ?_ _)|(with_reducible refine cD_ ?_)));(case side2=>exact HC0.out);rintro e w' ⟨rfl,⟨nd,rfl⟩⟩;refine ⟨_,rfl,?_⟩))
    go_meet
    case rel=>exact ⟨_,(true),(by first|rfl|(simp;done)|(simp [*];done)),H',⟨by first|omega|exact Nat.le_refl _⟩,⟨by repeat (first|(with_reducible first|exact HB.out|apply bA_|apply bN_|apply bD_)|exact HB.out)⟩⟩
  case rest =>
   clear HC7
   try clear c1
   try clear p2
   try clear c4
   try clear c6
   try clear c8
   try clear c9
   try clear c10
   obtain ⟨kq,x21_6,rfl,HA,HJ6,HB⟩:=hcut
   cases kq with
   | zero=>exact absurd HA.out (by simp [cadencelaw4_SchemaFits.j0])
   | succ kj6 =>
    have H:=HA.out
    clear HA
    simp only [cadencelaw4_SchemaFits.j0] at H
    by_cases c12:x21_6=true
    ·subst c12
     have H1:(some true)=some r:=by rw [if_pos rfl] at H;exact H
     clear H
     have H:=H1
     clear H1
     obtain rfl:=Option.some.inj H
     go_wp2
     go_ret
     exact ⟨by first|rfl|(simp [errW_none,errW_some] <;> rfl)|(simp [*,errW_none,errW_some] <;> rfl),by repeat (first|(with_reducible first|exact HB.out|apply bA_|apply bN_|apply bD_)|exact HB.out)⟩
    ·replace c12:=Bool.eq_false_iff.mpr c12
     subst c12
     have H1:((cadencelaw4_Make.f kj6 l0).bind fun t334=>((cadencelaw4_Small.f kj6 l1 6 4).bind fun t337=>(cadencelaw4_SchemaFits.l0 kj6 a2 a3 t334 t337 (-1))))=some r:=by rw [if_neg (show ¬ (false=true) by decide)] at H;exact H
     clear H
     have H:=H1
     clear H1
     replace H:=Option.bind_eq_some_iff.mp H
     obtain ⟨t334,A130,H⟩:=H
     replace H:((cadencelaw4_Small.f kj6 l1 6 4).bind fun t337=>(cadencelaw4_SchemaFits.l0 kj6 a2 a3 t334 t337 (-1)))=some r:=H
     have A13:=Aside0.mk A130
     clear A130
     replace H:=Option.bind_eq_some_iff.mp H
     obtain ⟨t337,A140,H⟩:=H
     replace H:(cadencelaw4_SchemaFits.l0 kj6 a2 a3 t334 t337 (-1))=some r:=H
     have A14:=Aside0.mk A140
     clear A140
     have H':=Aside0.mk H
     clear H
     go_wp2_with (first|((with_reducible refine gate_callee (f:=10) rfl ?_);refine goesL_ (some 23) rfl rfl Try.func10 (by kernel_rfl) rfl #[.slice A0 l0.length c0] rfl (by (try simp only [List.map_toArray,List.map_cons,List.map_nil]);first|done|rfl|(simp only [List.length_drop,List.length_take];rfl)) ?_;(with_reducible refine (cadencelaw4_Make.calls kj6 _ _ l0 t334 _ ?side1 ?side2 A13.out).mono ?_);(case side1=>repeat (first|exact (Kd.C_below HR0.out HB.out)|(with_reducible refine cA_ ?_ _)|(with_reducible refine cN_ ?_ _)|(with_reducible refine cD_ ?_)));(case side2=>exact HC0.out);rintro e w15 ⟨v335,rfl,ho0,hb⟩;refine ⟨_,rfl,?_⟩;have n0_:=Aside0.mk (Kd.N_lower (Kd.N_mono (ok':=fun k_=>True) (Kd.R_N (Kd.R_bound ho0)) (fun k_ hk_=>trivial)) (below_size (by repeat (first|(with_reducible first|exact HB.out|apply bA_|apply bN_|apply bD_)|exact HB.out))));have n1_:=Aside0.mk (below_step (by repeat (first|(with_reducible first|exact HB.out|apply bA_|apply bN_|apply bD_)|exact HB.out)) hb);clear HB;have HO336:=n0_;have HB:=n1_;clear n0_ n1_;(try clear hb);(try clear hb2);(try clear hk);(try clear hi);(try clear ho0))|((with_reducible refine gate_callee (f:=15) rfl ?_);refine goesL_ (some 25) rfl rfl Try.func15 (by kernel_rfl) rfl #[.slice A1 l1.length c1,.int .i64 6,.int .i64 4] rfl (by (try simp only [List.map_toArray,List.map_cons,List.map_nil]);first|done|rfl|(simp only [List.length_drop,List.length_take];rfl)) ?_;(with_reducible refine (cadencelaw4_Small.calls kj6 _ _ l1 6 4 t337 _ ?side1 ?side2 A14.out).mono ?_);(case side1=>repeat (first|exact (Kd.C_below HR1.out HB.out)|(with_reducible refine cA_ ?_ _)|(with_reducible refine cN_ ?_ _)|(with_reducible refine cD_ ?_)));(case side2=>exact HC1.out);rintro e w16 ⟨v338,rfl,ho0,hb⟩;refine ⟨_,rfl,?_⟩;have n0_:=Aside0.mk (Kd.N_elder' (by (with_reducible repeat (first|apply nA_|apply nN_|apply nD_));exact HO336.out) (Kd.N_base ho0) hb);have n1_:=Aside0.mk (Kd.N_lower (Kd.N_mono (ok':=fun k_=>some k_≠(v335:Value).ownBlock) ho0 (fun k_ hk_=>(Kd.fresh' (Kd.N_lt (by (with_reducible repeat (first|apply nA_|apply nN_|apply nD_));exact HO336.out)) k_ hk_))) (below_size (by repeat (first|(with_reducible first|exact HB.out|apply bA_|apply bN_|apply bD_)|exact HB.out))));have n2_:=Aside0.mk (below_step (by repeat (first|(with_reducible first|exact HB.out|apply bA_|apply bN_|apply bD_)|exact HB.out)) hb);clear HO336;clear HB;have HO336:=n0_;have HO339:=n1_;have HB:=n2_;clear n0_ n1_ n2_;(try clear hb);(try clear hb2);(try clear hk);(try clear hi);(try clear ho0)))
     go_loopg [11] kj6 (fun kq v11 w'=>∃ (x11_2:Int),v11=.int .i64 x11_2∧Aside0 (cadencelaw4_SchemaFits.l0 kq a2 a3 t334 t337 x11_2=some r)∧Aside0 (kq≤kj6)∧Aside0 (Kd.N k33 33 w' w.heap.size (fun k_=>some k_≠(v338:Value).ownBlock) v335 t334)∧Aside0 (Kd.N k53 53 w' w.heap.size (fun k_=>some k_≠(v335:Value).ownBlock) v338 t337)∧Aside0 (Below w.heap.size w w'))
     case atStart=>exact ⟨((-1)),(by first|rfl|(simp;done)|(simp [*];done)),H',⟨Nat.le_refl _⟩,⟨by (with_reducible repeat (first|apply nA_|apply nN_|apply nD_));exact Kd.N_mono HO336.out (fun _ hk=>hk.2)⟩,⟨by (with_reducible repeat (first|apply nA_|apply nN_|apply nD_));exact HO339.out⟩,⟨by repeat (first|(with_reducible first|exact HB.out|apply bA_|apply bN_|apply bD_)|exact HB.out)⟩⟩
     case round =>
      clear H'
      try clear c1
      try clear p2
      try clear c4
      try clear c6
      try clear c8
      try clear c9
      try clear c10
      try clear c12
      try clear c15
      try clear p2
      obtain ⟨x11_2,rfl,HA,HK2,HO_9,HO_10,HB⟩:=hrel
      cases gk with
      | zero=>exact absurd HA.out (by simp [cadencelaw4_SchemaFits.l0])
      | succ k2 =>
       have H:=HA.out
       clear HA
       simp only [cadencelaw4_SchemaFits.l0] at H
       by_cases c17:x11_2≤(t334.length:Int)
       ·rw [if_pos c17] at H
        have c17b0:decide (x11_2≤(t334.length:Int))=true:=decide_eq_true c17
        clear c17
        replace H:=Option.bind_eq_some_iff.mp H
        obtain ⟨t342,A180,H⟩:=H
        replace H:((cadenceref4_Level.f k2 t334 x11_2 t337).bind fun t343=>(if (t342 != t343)=true then (some false) else ((schema_Fits.f t334 x11_2 t337).bind fun t344=>((cadenceref4_Fits.f k2 t334 x11_2 t337).bind fun t345=>(if (t344 != t345)=true then (some false) else ((schema_To.f t334 x11_2 a3).bind fun t346=>((cadenceref4_To.f k2 t334 x11_2 a3).bind fun t347=>(if t346=t347 then ((schema_To.f t334 x11_2 (⟨#[97]⟩:ByteArray)).bind fun t348=>((cadenceref4_To.f k2 t334 x11_2 (⟨#[97]⟩:ByteArray)).bind fun t349=>(if t348=t349 then (cadencelaw4_SchemaFits.l0 k2 a2 a3 t334 t337 (wrap64 (x11_2+1))) else (some false)))) else (some false)))))))))=some r:=H
        have A18:=Aside0.mk A180
        clear A180
        replace H:=Option.bind_eq_some_iff.mp H
        obtain ⟨t343,A190,H⟩:=H
        replace H:(if (t342 != t343)=true then (some false) else ((schema_Fits.f t334 x11_2 t337).bind fun t344=>((cadenceref4_Fits.f k2 t334 x11_2 t337).bind fun t345=>(if (t344 != t345)=true then (some false) else ((schema_To.f t334 x11_2 a3).bind fun t346=>((cadenceref4_To.f k2 t334 x11_2 a3).bind fun t347=>(if t346=t347 then ((schema_To.f t334 x11_2 (⟨#[97]⟩:ByteArray)).bind fun t348=>((cadenceref4_To.f k2 t334 x11_2 (⟨#[97]⟩:ByteArray)).bind fun t349=>(if t348=t349 then (cadencelaw4_SchemaFits.l0 k2 a2 a3 t334 t337 (wrap64 (x11_2+1))) else (some false)))) else (some false))))))))=some r:=H
        have A19:=Aside0.mk A190
        clear A190
        by_cases c20:(t342 != t343)=true
        ·rw [if_pos c20] at H
         have c20b0:(t342 != t343)=true:=c20
         (try (have c20b1:decide (t342=t343)=false:=by simpa using c20))
         (try (have c20b2:(t342 == t343)=false:=by simpa using c20))
         (try (have c20b3:¬ (t342=t343):=by simpa using c20))
         clear c20
         obtain rfl:=Option.some.inj H
         obtain ⟨Ao21,co21,eo21⟩:=Kd.N_slice HO_9.out
         subst eo21
         obtain ⟨Ao22,co22,eo22⟩:=Kd.N_slice HO_10.out
         subst eo22
         go_wp2_with (first|((with_reducible refine gate_callee (f:=16) rfl ?_);refine goesL_ (some 35) rfl rfl Try.func16 (by kernel_rfl) rfl #[.slice Ao21 t334.length co21,.int .i64 x11_2,.slice Ao22 t337.length co22] rfl (by (try simp only [List.map_toArray,List.map_cons,List.map_nil]);first|done|rfl|(simp only [List.length_drop,List.length_take];rfl)) ?_;(with_reducible refine (schema_Level.calls _ _ t334 x11_2 _ _ t337 t342 _ ?side1 ?side2 ?side3 ?side4 A18.out).mono ?_);(case side1=>repeat (first|exact (Kd.N_reads' HO_9.out).2.2|(with_reducible refine cA_ ?_ _)|(with_reducible refine cN_ ?_ _)|(with_reducible refine cD_ ?_)));(case side2=>exact (Kd.N_reads' HO_9.out).2.1);(case side3=>repeat (first|exact (Kd.N_reads' HO_10.out).2.2|(with_reducible refine cA_ ?_ _)|(with_reducible refine cN_ ?_ _)|(with_reducible refine cD_ ?_)));(case side4=>exact (Kd.N_reads' HO_10.out).2.1);rintro e w23 ⟨rfl,hb⟩;refine ⟨_,rfl,?_⟩;have n0_:=Aside0.mk (Kd.N_below (by (with_reducible repeat (first|apply nA_|apply nN_|apply nD_));exact HO_9.out) hb);have n1_:=Aside0.mk (Kd.N_below (by (with_reducible repeat (first|apply nA_|apply nN_|apply nD_));exact HO_10.out) hb);have n2_:=Aside0.mk (below_step (by repeat (first|(with_reducible first|exact HB.out|apply bA_|apply bN_|apply bD_)|exact HB.out)) hb);clear HO_9;clear HO_10;clear HB;have HO_9:=n0_;have HO_10:=n1_;have HB:=n2_;clear n0_ n1_ n2_;(try clear hb);(try clear hb2);(try clear hk);(try clear hi))|((with_reducible refine gate_callee (f:=17) rfl ?_);refine goesL_ (some 39) rfl rfl Try.func17 (by kernel_rfl) rfl #[.slice Ao21 t334.length co21,.int .i64 x11_2,.slice Ao22 t337.length co22] rfl (by (try simp only [List.map_toArray,List.map_cons,List.map_nil]);first|done|rfl|(simp only [List.length_drop,List.length_take];rfl)) ?_;(with_reducible refine (cadenceref4_Level.calls k2 _ _ t334 x11_2 _ _ t337 t343 _ ?side1 ?side2 ?side3 ?side4 A19.out).mono ?_);(case side1=>repeat (first|exact (Kd.N_reads' HO_9.out).2.2|(with_reducible refine cA_ ?_ _)|(with_reducible refine cN_ ?_ _)|(with_reducible refine cD_ ?_)));(case side2=>exact (Kd.N_reads' HO_9.out).2.1);(case side3=>repeat (first|exact (Kd.N_reads' HO_10.out).2.2|(with_reducible refine cA_ ?_ _)|(with_reducible refine cN_ ?_ _)|(with_reducible refine cD_ ?_)));(case side4=>exact (Kd.N_reads' HO_10.out).2.1);rintro e w24 ⟨rfl,hb⟩;refine ⟨_,rfl,?_⟩;have n0_:=Aside0.mk (Kd.N_below (by (with_reducible repeat (first|apply nA_|apply nN_|apply nD_));exact HO_9.out) hb);have n1_:=Aside0.mk (Kd.N_below (by (with_reducible repeat (first|apply nA_|apply nN_|apply nD_));exact HO_10.out) hb);have n2_:=Aside0.mk (below_step (by repeat (first|(with_reducible first|exact HB.out|apply bA_|apply bN_|apply bD_)|exact HB.out)) hb);clear HO_9;clear HO_10;clear HB;have HO_9:=n0_;have HO_10:=n1_;have HB:=n2_;clear n0_ n1_ n2_;(try clear hb);(try clear hb2);(try clear hk);(try clear hi)))
         go_ret
         exact ⟨by first|rfl|(simp [errW_none,errW_some] <;> rfl)|(simp [*,errW_none,errW_some] <;> rfl),by repeat (first|(with_reducible first|exact HB.out|apply bA_|apply bN_|apply bD_)|exact HB.out)⟩
        ·rw [if_neg c20] at H
         have c20b0:(t342 != t343)=false:=by simpa using c20
         (try (have c20b1:decide (t342=t343)=true:=by simpa using c20))
         (try (have c20b2:(t342 == t343)=true:=by simpa using c20))
         clear c20
         replace H:=Option.bind_eq_some_iff.mp H
         obtain ⟨t344,A250,H⟩:=H
         replace H:((cadenceref4_Fits.f k2 t334 x11_2 t337).bind fun t345=>(if (t344 != t345)=true then (some false) else ((schema_To.f t334 x11_2 a3).bind fun t346=>((cadenceref4_To.f k2 t334 x11_2 a3).bind fun t347=>(if t346=t347 then ((schema_To.f t334 x11_2 (⟨#[97]⟩:ByteArray)).bind fun t348=>((cadenceref4_To.f k2 t334 x11_2 (⟨#[97]⟩:ByteArray)).bind fun t349=>(if t348=t349 then (cadencelaw4_SchemaFits.l0 k2 a2 a3 t334 t337 (wrap64 (x11_2+1))) else (some false)))) else (some false))))))=some r:=H
         have A25:=Aside0.mk A250
         clear A250
         replace H:=Option.bind_eq_some_iff.mp H
         obtain ⟨t345,A260,H⟩:=H
         replace H:(if (t344 != t345)=true then (some false) else ((schema_To.f t334 x11_2 a3).bind fun t346=>((cadenceref4_To.f k2 t334 x11_2 a3).bind fun t347=>(if t346=t347 then ((schema_To.f t334 x11_2 (⟨#[97]⟩:ByteArray)).bind fun t348=>((cadenceref4_To.f k2 t334 x11_2 (⟨#[97]⟩:ByteArray)).bind fun t349=>(if t348=t349 then (cadencelaw4_SchemaFits.l0 k2 a2 a3 t334 t337 (wrap64 (x11_2+1))) else (some false)))) else (some false)))))=some r:=H
         have A26:=Aside0.mk A260
         clear A260
         by_cases c27:(t344 != t345)=true
         ·rw [if_pos c27] at H
          have c27b0:(t344 != t345)=true:=c27
          (try (have c27b1:decide (t344=t345)=false:=by simpa using c27))
          (try (have c27b2:(t344 == t345)=false:=by simpa using c27))
          (try (have c27b3:¬ (t344=t345):=by simpa using c27))
          clear c27
          obtain rfl:=Option.some.inj H
          obtain ⟨Ao28,co28,eo28⟩:=Kd.N_slice HO_9.out
          subst eo28
          obtain ⟨Ao29,co29,eo29⟩:=Kd.N_slice HO_10.out
          subst eo29
          go_wp2_with (first|((with_reducible refine gate_callee (f:=16) rfl ?_);refine goesL_ (some 35) rfl rfl Try.func16 (by kernel_rfl) rfl #[.slice Ao28 t334.length co28,.int .i64 x11_2,.slice Ao29 t337.length co29] rfl (by (try simp only [List.map_toArray,List.map_cons,List.map_nil]);first|done|rfl|(simp only [List.length_drop,List.length_take];rfl)) ?_;(with_reducible refine (schema_Level.calls _ _ t334 x11_2 _ _ t337 t342 _ ?side1 ?side2 ?side3 ?side4 A18.out).mono ?_);(case side1=>repeat (first|exact (Kd.N_reads' HO_9.out).2.2|(with_reducible refine cA_ ?_ _)|(with_reducible refine cN_ ?_ _)|(with_reducible refine cD_ ?_)));(case side2=>exact (Kd.N_reads' HO_9.out).2.1);(case side3=>repeat (first|exact (Kd.N_reads' HO_10.out).2.2|(with_reducible refine cA_ ?_ _)|(with_reducible refine cN_ ?_ _)|(with_reducible refine cD_ ?_)));(case side4=>exact (Kd.N_reads' HO_10.out).2.1);rintro e w30 ⟨rfl,hb⟩;refine ⟨_,rfl,?_⟩;have n0_:=Aside0.mk (Kd.N_below (by (with_reducible repeat (first|apply nA_|apply nN_|apply nD_));exact HO_9.out) hb);have n1_:=Aside0.mk (Kd.N_below (by (with_reducible repeat (first|apply nA_|apply nN_|apply nD_));exact HO_10.out) hb);have n2_:=Aside0.mk (below_step (by repeat (first|(with_reducible first|exact HB.out|apply bA_|apply bN_|apply bD_)|exact HB.out)) hb);clear HO_9;clear HO_10;clear HB;have HO_9:=n0_;have HO_10:=n1_;have HB:=n2_;clear n0_ n1_ n2_;(try clear hb);(try clear hb2);(try clear hk);(try clear hi))|((with_reducible refine gate_callee (f:=17) rfl ?_);refine goesL_ (some 39) rfl rfl Try.func17 (by kernel_rfl) rfl #[.slice Ao28 t334.length co28,.int .i64 x11_2,.slice Ao29 t337.length co29] rfl (by (try simp only [List.map_toArray,List.map_cons,List.map_nil]);first|done|rfl|(simp only [List.length_drop,List.length_take];rfl)) ?_;(with_reducible refine (cadenceref4_Level.calls k2 _ _ t334 x11_2 _ _ t337 t343 _ ?side1 ?side2 ?side3 ?side4 A19.out).mono ?_);(case side1=>repeat (first|exact (Kd.N_reads' HO_9.out).2.2|(with_reducible refine cA_ ?_ _)|(with_reducible refine cN_ ?_ _)|(with_reducible refine cD_ ?_)));(case side2=>exact (Kd.N_reads' HO_9.out).2.1);(case side3=>repeat (first|exact (Kd.N_reads' HO_10.out).2.2|(with_reducible refine cA_ ?_ _)|(with_reducible refine cN_ ?_ _)|(with_reducible refine cD_ ?_)));(case side4=>exact (Kd.N_reads' HO_10.out).2.1);rintro e w31 ⟨rfl,hb⟩;refine ⟨_,rfl,?_⟩;have n0_:=Aside0.mk (Kd.N_below (by (with_reducible repeat (first|apply nA_|apply nN_|apply nD_));exact HO_9.out) hb);have n1_:=Aside0.mk (Kd.N_below (by (with_reducible repeat (first|apply nA_|apply nN_|apply nD_));exact HO_10.out) hb);have n2_:=Aside0.mk (below_step (by repeat (first|(with_reducible first|exact HB.out|apply bA_|apply bN_|apply bD_)|exact HB.out)) hb);clear HO_9;clear HO_10;clear HB;have HO_9:=n0_;have HO_10:=n1_;have HB:=n2_;clear n0_ n1_ n2_;(try clear hb);(try clear hb2);(try clear hk);(try clear hi))|(go_at_call 18;(with_reducible refine (schema_Fits.calls _ _ t334 x11_2 _ _ t337 t344 _ ?side1 ?side2 ?side3 ?side4 A25.out).mono ?_);(case side1=>repeat (first|exact (Kd.N_reads' HO_9.out).2.2|(with_reducible refine cA_ ?_ _)|(with_reducible refine cN_ ?_ _)|(with_reducible refine cD_ ?_)));(case side2=>exact (Kd.N_reads' HO_9.out).2.1);(case side3=>repeat (first|exact (Kd.N_reads' HO_10.out).2.2|(with_reducible refine cA_ ?_ _)|(with_reducible refine cN_ ?_ _)|(with_reducible refine cD_ ?_)));(case side4=>exact (Kd.N_reads' HO_10.out).2.1);rintro e w32 ⟨rfl,hb⟩;have n0_:=Aside0.mk (Kd.N_below (by (with_reducible repeat (first|apply nA_|apply nN_|apply nD_));exact HO_9.out) hb);have n1_:=Aside0.mk (Kd.N_below (by (with_reducible repeat (first|apply nA_|apply nN_|apply nD_));exact HO_10.out) hb);have n2_:=Aside0.mk (below_step (by repeat (first|(with_reducible first|exact HB.out|apply bA_|apply bN_|apply bD_)|exact HB.out)) hb);clear HO_9;clear HO_10;clear HB;have HO_9:=n0_;have HO_10:=n1_;have HB:=n2_;clear n0_ n1_ n2_;(try clear hb);(try clear hb2);(try clear hk);(try clear hi))|(go_at_call 19;(with_reducible refine (cadenceref4_Fits.calls k2 _ _ t334 x11_2 _ _ t337 t345 _ ?side1 ?side2 ?side3 ?side4 A26.out).mono ?_);(case side1=>repeat (first|exact (Kd.N_reads' HO_9.out).2.2|(with_reducible refine cA_ ?_ _)|(with_reducible refine cN_ ?_ _)|(with_reducible refine cD_ ?_)));(case side2=>exact (Kd.N_reads' HO_9.out).2.1);(case side3=>repeat (first|exact (Kd.N_reads' HO_10.out).2.2|(with_reducible refine cA_ ?_ _)|(with_reducible refine cN_ ?_ _)|(with_reducible refine cD_ ?_)));(case side4=>exact (Kd.N_reads' HO_10.out).2.1);rintro e w33 ⟨rfl,hb⟩;have n0_:=Aside0.mk (Kd.N_below (by (with_reducible repeat (first|apply nA_|apply nN_|apply nD_));exact HO_9.out) hb);have n1_:=Aside0.mk (Kd.N_below (by (with_reducible repeat (first|apply nA_|apply nN_|apply nD_));exact HO_10.out) hb);have n2_:=Aside0.mk (below_step (by repeat (first|(with_reducible first|exact HB.out|apply bA_|apply bN_|apply bD_)|exact HB.out)) hb);clear HO_9;clear HO_10;clear HB;have HO_9:=n0_;have HO_10:=n1_;have HB:=n2_;clear n0_ n1_ n2_;(try clear hb);(try clear hb2);(try clear hk);(try clear hi)))
          go_ret
          exact ⟨by first|rfl|(simp [errW_none,errW_some] <;> rfl)|(simp [*,errW_none,errW_some] <;> rfl),by repeat (first|(with_reducible first|exact HB.out|apply bA_|apply bN_|apply bD_)|exact HB.out)⟩
         ·rw [if_neg c27] at H
          have c27b0:(t344 != t345)=false:=by simpa using c27
          (try (have c27b1:decide (t344=t345)=true:=by simpa using c27))
          (try (have c27b2:(t344 == t345)=true:=by simpa using c27))
          clear c27
          replace H:=Option.bind_eq_some_iff.mp H
          obtain ⟨t346,A340,H⟩:=H
          replace H:((cadenceref4_To.f k2 t334 x11_2 a3).bind fun t347=>(if t346=t347 then ((schema_To.f t334 x11_2 (⟨#[97]⟩:ByteArray)).bind fun t348=>((cadenceref4_To.f k2 t334 x11_2 (⟨#[97]⟩:ByteArray)).bind fun t349=>(if t348=t349 then (cadencelaw4_SchemaFits.l0 k2 a2 a3 t334 t337 (wrap64 (x11_2+1))) else (some false)))) else (some false)))=some r:=H
          have A34:=Aside0.mk A340
          clear A340
          replace H:=Option.bind_eq_some_iff.mp H
          obtain ⟨t347,A350,H⟩:=H
          replace H:(if t346=t347 then ((schema_To.f t334 x11_2 (⟨#[97]⟩:ByteArray)).bind fun t348=>((cadenceref4_To.f k2 t334 x11_2 (⟨#[97]⟩:ByteArray)).bind fun t349=>(if t348=t349 then (cadencelaw4_SchemaFits.l0 k2 a2 a3 t334 t337 (wrap64 (x11_2+1))) else (some false)))) else (some false))=some r:=H
          have A35:=Aside0.mk A350
          clear A350
          by_cases c36:t346=t347
          ·rw [if_pos c36] at H
           have c36b0:(t346 == t347)=true:=beq_iff_eq.mpr c36
           have c36b1:(t346 != t347)=false:=bne_eq_false_iff_eq.mpr c36
           clear c36
           replace H:=Option.bind_eq_some_iff.mp H
           obtain ⟨t348,A370,H⟩:=H
           replace H:((cadenceref4_To.f k2 t334 x11_2 (⟨#[97]⟩:ByteArray)).bind fun t349=>(if t348=t349 then (cadencelaw4_SchemaFits.l0 k2 a2 a3 t334 t337 (wrap64 (x11_2+1))) else (some false)))=some r:=H
           have A37:=Aside0.mk A370
           clear A370
           replace H:=Option.bind_eq_some_iff.mp H
           obtain ⟨t349,A380,H⟩:=H
           replace H:(if t348=t349 then (cadencelaw4_SchemaFits.l0 k2 a2 a3 t334 t337 (wrap64 (x11_2+1))) else (some false))=some r:=H
           have A38:=Aside0.mk A380
           clear A380
           by_cases c39:t348=t349
           ·rw [if_pos c39] at H
            have c39b0:(t348 == t349)=true:=beq_iff_eq.mpr c39
            have c39b1:(t348 != t349)=false:=bne_eq_false_iff_eq.mpr c39
            clear c39
            have H':=Aside0.mk H
            clear H
            obtain ⟨Ao40,co40,eo40⟩:=Kd.N_slice HO_9.out
            subst eo40
            obtain ⟨Ao41,co41,eo41⟩:=Kd.N_slice HO_10.out
            subst eo41
            go_wp2_with (first|((with_reducible refine gate_callee (f:=16) rfl ?_);refine goesL_ (some 35) rfl rfl Try.func16 (by kernel_rfl) rfl #[.slice Ao40 t334.length co40,.int .i64 x11_2,.slice Ao41 t337.length co41] rfl (by (try simp only [List.map_toArray,List.map_cons,List.map_nil]);first|done|rfl|(simp only [List.length_drop,List.length_take];rfl)) ?_;(with_reducible refine (schema_Level.calls _ _ t334 x11_2 _ _ t337 t342 _ ?side1 ?side2 ?side3 ?side4 A18.out).mono ?_);(case side1=>repeat (first|exact (Kd.N_reads' HO_9.out).2.2|(with_reducible refine cA_ ?_ _)|(with_reducible refine cN_ ?_ _)|(with_reducible refine cD_ ?_)));(case side2=>exact (Kd.N_reads' HO_9.out).2.1);(case side3=>repeat (first|exact (Kd.N_reads' HO_10.out).2.2|(with_reducible refine cA_ ?_ _)|(with_reducible refine cN_ ?_ _)|(with_reducible refine cD_ ?_)));(case side4=>exact (Kd.N_reads' HO_10.out).2.1);rintro e w42 ⟨rfl,hb⟩;refine ⟨_,rfl,?_⟩;have n0_:=Aside0.mk (Kd.N_below (by (with_reducible repeat (first|apply nA_|apply nN_|apply nD_));exact HO_9.out) hb);have n1_:=Aside0.mk (Kd.N_below (by (with_reducible repeat (first|apply nA_|apply nN_|apply nD_));exact HO_10.out) hb);have n2_:=Aside0.mk (below_step (by repeat (first|(with_reducible first|exact HB.out|apply bA_|apply bN_|apply bD_)|exact HB.out)) hb);clear HO_9;clear HO_10;clear HB;have HO_9:=n0_;have HO_10:=n1_;have HB:=n2_;clear n0_ n1_ n2_;(try clear hb);(try clear hb2);(try clear hk);(try clear hi))|((with_reducible refine gate_callee (f:=17) rfl ?_);refine goesL_ (some 39) rfl rfl Try.func17 (by kernel_rfl) rfl #[.slice Ao40 t334.length co40,.int .i64 x11_2,.slice Ao41 t337.length co41] rfl (by (try simp only [List.map_toArray,List.map_cons,List.map_nil]);first|done|rfl|(simp only [List.length_drop,List.length_take];rfl)) ?_;(with_reducible refine (cadenceref4_Level.calls k2 _ _ t334 x11_2 _ _ t337 t343 _ ?side1 ?side2 ?side3 ?side4 A19.out).mono ?_);(case side1=>repeat (first|exact (Kd.N_reads' HO_9.out).2.2|(with_reducible refine cA_ ?_ _)|(with_reducible refine cN_ ?_ _)|(with_reducible refine cD_ ?_)));(case side2=>exact (Kd.N_reads' HO_9.out).2.1);(case side3=>repeat (first|exact (Kd.N_reads' HO_10.out).2.2|(with_reducible refine cA_ ?_ _)|(with_reducible refine cN_ ?_ _)|(with_reducible refine cD_ ?_)));(case side4=>exact (Kd.N_reads' HO_10.out).2.1);rintro e w43 ⟨rfl,hb⟩;refine ⟨_,rfl,?_⟩;have n0_:=Aside0.mk (Kd.N_below (by (with_reducible repeat (first|apply nA_|apply nN_|apply nD_));exact HO_9.out) hb);have n1_:=Aside0.mk (Kd.N_below (by (with_reducible repeat (first|apply nA_|apply nN_|apply nD_));exact HO_10.out) hb);have n2_:=Aside0.mk (below_step (by repeat (first|(with_reducible first|exact HB.out|apply bA_|apply bN_|apply bD_)|exact HB.out)) hb);clear HO_9;clear HO_10;clear HB;have HO_9:=n0_;have HO_10:=n1_;have HB:=n2_;clear n0_ n1_ n2_;(try clear hb);(try clear hb2);(try clear hk);(try clear hi))|(go_at_call 18;(with_reducible refine (schema_Fits.calls _ _ t334 x11_2 _ _ t337 t344 _ ?side1 ?side2 ?side3 ?side4 A25.out).mono ?_);(case side1=>repeat (first|exact (Kd.N_reads' HO_9.out).2.2|(with_reducible refine cA_ ?_ _)|(with_reducible refine cN_ ?_ _)|(with_reducible refine cD_ ?_)));(case side2=>exact (Kd.N_reads' HO_9.out).2.1);(case side3=>repeat (first|exact (Kd.N_reads' HO_10.out).2.2|(with_reducible refine cA_ ?_ _)|(with_reducible refine cN_ ?_ _)|(with_reducible refine cD_ ?_)));(case side4=>exact (Kd.N_reads' HO_10.out).2.1);rintro e w44 ⟨rfl,hb⟩;have n0_:=Aside0.mk (Kd.N_below (by (with_reducible repeat (first|apply nA_|apply nN_|apply nD_));exact HO_9.out) hb);have n1_:=Aside0.mk (Kd.N_below (by (with_reducible repeat (first|apply nA_|apply nN_|apply nD_));exact HO_10.out) hb);have n2_:=Aside0.mk (below_step (by repeat (first|(with_reducible first|exact HB.out|apply bA_|apply bN_|apply bD_)|exact HB.out)) hb);clear HO_9;clear HO_10;clear HB;have HO_9:=n0_;have HO_10:=n1_;have HB:=n2_;clear n0_ n1_ n2_;(try clear hb);(try clear hb2);(try clear hk);(try clear hi))|(go_at_call 19;(with_reducible refine (cadenceref4_Fits.calls k2 _ _ t334 x11_2 _ _ t337 t345 _ ?side1 ?side2 ?side3 ?side4 A26.out).mono ?_);(case side1=>repeat (first|exact (Kd.N_reads' HO_9.out).2.2|(with_reducible refine cA_ ?_ _)|(with_reducible refine cN_ ?_ _)|(with_reducible refine cD_ ?_)));(case side2=>exact (Kd.N_reads' HO_9.out).2.1);(case side3=>repeat (first|exact (Kd.N_reads' HO_10.out).2.2|(with_reducible refine cA_ ?_ _)|(with_reducible refine cN_ ?_ _)|(with_reducible refine cD_ ?_)));(case side4=>exact (Kd.N_reads' HO_10.out).2.1);rintro e w45 ⟨rfl,hb⟩;have n0_:=Aside0.mk (Kd.N_below (by (with_reducible repeat (first|apply nA_|apply nN_|apply nD_));exact HO_9.out) hb);have n1_:=Aside0.mk (Kd.N_below (by (with_reducible repeat (first|apply nA_|apply nN_|apply nD_));exact HO_10.out) hb);have n2_:=Aside0.mk (below_step (by repeat (first|(with_reducible first|exact HB.out|apply bA_|apply bN_|apply bD_)|exact HB.out)) hb);clear HO_9;clear HO_10;clear HB;have HO_9:=n0_;have HO_10:=n1_;have HB:=n2_;clear n0_ n1_ n2_;(try clear hb);(try clear hb2);(try clear hk);(try clear hi))|(go_at_call 20;(with_reducible refine (schema_To.calls _ _ t334 x11_2 a3 t346 _ ?side1 ?side2 A34.out).mono ?_);(case side1=>repeat (first|exact (Kd.N_reads' HO_9.out).2.2|(with_reducible refine cA_ ?_ _)|(with_reducible refine cN_ ?_ _)|(with_reducible refine cD_ ?_)));(case side2=>exact (Kd.N_reads' HO_9.out).2.1);rintro e w46 ⟨rfl,hb⟩;have n0_:=Aside0.mk (Kd.N_below (by (with_reducible repeat (first|apply nA_|apply nN_|apply nD_));exact HO_9.out) hb);have n1_:=Aside0.mk (Kd.N_below (by (with_reducible repeat (first|apply nA_|apply nN_|apply nD_));exact HO_10.out) hb);have n2_:=Aside0.mk (below_step (by repeat (first|(with_reducible first|exact HB.out|apply bA_|apply bN_|apply bD_)|exact HB.out)) hb);clear HO_9;clear HO_10;clear HB;have HO_9:=n0_;have HO_10:=n1_;have HB:=n2_;clear n0_ n1_ n2_;(try clear hb);(try clear hb2);(try clear hk);(try clear hi))|(go_at_call 21;(with_reducible refine (cadenceref4_To.calls k2 _ _ t334 x11_2 a3 t347 _ ?side1 ?side2 A35.out).mono ?_);(case side1=>repeat (first|exact (Kd.N_reads' HO_9.out).2.2|(with_reducible refine cA_ ?_ _)|(with_reducible refine cN_ ?_ _)|(with_reducible refine cD_ ?_)));(case side2=>exact (Kd.N_reads' HO_9.out).2.1);rintro e w47 ⟨rfl,hb⟩;have n0_:=Aside0.mk (Kd.N_below (by (with_reducible repeat (first|apply nA_|apply nN_|apply nD_));exact HO_9.out) hb);have n1_:=Aside0.mk (Kd.N_below (by (with_reducible repeat (first|apply nA_|apply nN_|apply nD_));exact HO_10.out) hb);have n2_:=Aside0.mk (below_step (by repeat (first|(with_reducible first|exact HB.out|apply bA_|apply bN_|apply bD_)|exact HB.out)) hb);clear HO_9;clear HO_10;clear HB;have HO_9:=n0_;have HO_10:=n1_;have HB:=n2_;clear n0_ n1_ n2_;(try clear hb);(try clear hb2);(try clear hk);(try clear hi))|(go_at_call 20;(with_reducible refine (schema_To.calls _ _ t334 x11_2 (⟨#[97]⟩:ByteArray) t348 _ ?side1 ?side2 A37.out).mono ?_);(case side1=>repeat (first|exact (Kd.N_reads' HO_9.out).2.2|(with_reducible refine cA_ ?_ _)|(with_reducible refine cN_ ?_ _)|(with_reducible refine cD_ ?_)));(case side2=>exact (Kd.N_reads' HO_9.out).2.1);rintro e w48 ⟨rfl,hb⟩;have n0_:=Aside0.mk (Kd.N_below (by (with_reducible repeat (first|apply nA_|apply nN_|apply nD_));exact HO_9.out) hb);have n1_:=Aside0.mk (Kd.N_below (by (with_reducible repeat (first|apply nA_|apply nN_|apply nD_));exact HO_10.out) hb);have n2_:=Aside0.mk (below_step (by repeat (first|(with_reducible first|exact HB.out|apply bA_|apply bN_|apply bD_)|exact HB.out)) hb);clear HO_9;clear HO_10;clear HB;have HO_9:=n0_;have HO_10:=n1_;have HB:=n2_;clear n0_ n1_ n2_;(try clear hb);(try clear hb2);(try clear hk);(try clear hi))|(go_at_call 21;(with_reducible refine (cadenceref4_To.calls k2 _ _ t334 x11_2 (⟨#[97]⟩:ByteArray) t349 _ ?side1 ?side2 A38.out).mono ?_);(case side1=>repeat (first|exact (Kd.N_reads' HO_9.out).2.2|(with_reducible refine cA_ ?_ _)|(with_reducible refine cN_ ?_ _)|(with_reducible refine cD_ ?_)));(case side2=>exact (Kd.N_reads' HO_9.out).2.1);rintro e w49 ⟨rfl,hb⟩;have n0_:=Aside0.mk (Kd.N_below (by (with_reducible repeat (first|apply nA_|apply nN_|apply nD_));exact HO_9.out) hb);have n1_:=Aside0.mk (Kd.N_below (by (with_reducible repeat (first|apply nA_|apply nN_|apply nD_));exact HO_10.out) hb);have n2_:=Aside0.mk (below_step (by repeat (first|(with_reducible first|exact HB.out|apply bA_|apply bN_|apply bD_)|exact HB.out)) hb);clear HO_9;clear HO_10;clear HB;have HO_9:=n0_;have HO_10:=n1_;have HB:=n2_;clear n0_ n1_ n2_;(try clear hb);(try clear hb2);(try clear hk);(try clear hi)))
            go_roundg k2
            case measure=>have:=HJ6.out;have:=HK2.out;omega
            case rel=>exact ⟨(wrap64 (x11_2+1)),(by first|rfl|(simp;done)|(simp [*];done)),H',⟨by have:=HJ6.out;have:=HK2.out;omega⟩,⟨by (with_reducible repeat (first|apply nA_|apply nN_|apply nD_));exact HO_9.out⟩,⟨by (with_reducible repeat (first|apply nA_|apply nN_|apply nD_));exact HO_10.out⟩,⟨by repeat (first|(with_reducible first|exact HB.out|apply bA_|apply bN_|apply bD_)|exact HB.out)⟩⟩
           ·rw [if_neg c39] at H
            have c39b0:(t348 == t349)=false:=beq_eq_false_iff_ne.mpr c39
            have c39b1:(t348 != t349)=true:=bne_iff_ne.mpr c39
            obtain rfl:=Option.some.inj H
            obtain ⟨Ao50,co50,eo50⟩:=Kd.N_slice HO_9.out
            subst eo50
            obtain ⟨Ao51,co51,eo51⟩:=Kd.N_slice HO_10.out
            subst eo51
            go_wp2_with (first|((with_reducible refine gate_callee (f:=16) rfl ?_);refine goesL_ (some 35) rfl rfl Try.func16 (by kernel_rfl) rfl #[.slice Ao50 t334.length co50,.int .i64 x11_2,.slice Ao51 t337.length co51] rfl (by (try simp only [List.map_toArray,List.map_cons,List.map_nil]);first|done|rfl|(simp only [List.length_drop,List.length_take];rfl)) ?_;(with_reducible refine (schema_Level.calls _ _ t334 x11_2 _ _ t337 t342 _ ?side1 ?side2 ?side3 ?side4 A18.out).mono ?_);(case side1=>repeat (first|exact (Kd.N_reads' HO_9.out).2.2|(with_reducible refine cA_ ?_ _)|(with_reducible refine cN_ ?_ _)|(with_reducible refine cD_ ?_)));(case side2=>exact (Kd.N_reads' HO_9.out).2.1);(case side3=>repeat (first|exact (Kd.N_reads' HO_10.out).2.2|(with_reducible refine cA_ ?_ _)|(with_reducible refine cN_ ?_ _)|(with_reducible refine cD_ ?_)));(case side4=>exact (Kd.N_reads' HO_10.out).2.1);rintro e w52 ⟨rfl,hb⟩;refine ⟨_,rfl,?_⟩;have n0_:=Aside0.mk (Kd.N_below (by (with_reducible repeat (first|apply nA_|apply nN_|apply nD_));exact HO_9.out) hb);have n1_:=Aside0.mk (Kd.N_below (by (with_reducible repeat (first|apply nA_|apply nN_|apply nD_));exact HO_10.out) hb);have n2_:=Aside0.mk (below_step (by repeat (first|(with_reducible first|exact HB.out|apply bA_|apply bN_|apply bD_)|exact HB.out)) hb);clear HO_9;clear HO_10;clear HB;have HO_9:=n0_;have HO_10:=n1_;have HB:=n2_;clear n0_ n1_ n2_;(try clear hb);(try clear hb2);(try clear hk);(try clear hi))|((with_reducible refine gate_callee (f:=17) rfl ?_);refine goesL_ (some 39) rfl rfl Try.func17 (by kernel_rfl) rfl #[.slice Ao50 t334.length co50,.int .i64 x11_2,.slice Ao51 t337.length co51] rfl (by (try simp only [List.map_toArray,List.map_cons,List.map_nil]);first|done|rfl|(simp only [List.length_drop,List.length_take];rfl)) ?_;(with_reducible refine (cadenceref4_Level.calls k2 _ _ t334 x11_2 _ _ t337 t343 _ ?side1 ?side2 ?side3 ?side4 A19.out).mono ?_);(case side1=>repeat (first|exact (Kd.N_reads' HO_9.out).2.2|(with_reducible refine cA_ ?_ _)|(with_reducible refine cN_ ?_ _)|(with_reducible refine cD_ ?_)));(case side2=>exact (Kd.N_reads' HO_9.out).2.1);(case side3=>repeat (first|exact (Kd.N_reads' HO_10.out).2.2|(with_reducible refine cA_ ?_ _)|(with_reducible refine cN_ ?_ _)|(with_reducible refine cD_ ?_)));(case side4=>exact (Kd.N_reads' HO_10.out).2.1);rintro e w53 ⟨rfl,hb⟩;refine ⟨_,rfl,?_⟩;have n0_:=Aside0.mk (Kd.N_below (by (with_reducible repeat (first|apply nA_|apply nN_|apply nD_));exact HO_9.out) hb);have n1_:=Aside0.mk (Kd.N_below (by (with_reducible repeat (first|apply nA_|apply nN_|apply nD_));exact HO_10.out) hb);have n2_:=Aside0.mk (below_step (by repeat (first|(with_reducible first|exact HB.out|apply bA_|apply bN_|apply bD_)|exact HB.out)) hb);clear HO_9;clear HO_10;clear HB;have HO_9:=n0_;have HO_10:=n1_;have HB:=n2_;clear n0_ n1_ n2_;(try clear hb);(try clear hb2);(try clear hk);(try clear hi))|(go_at_call 18;(with_reducible refine (schema_Fits.calls _ _ t334 x11_2 _ _ t337 t344 _ ?side1 ?side2 ?side3 ?side4 A25.out).mono ?_);(case side1=>repeat (first|exact (Kd.N_reads' HO_9.out).2.2|(with_reducible refine cA_ ?_ _)|(with_reducible refine cN_ ?_ _)|(with_reducible refine cD_ ?_)));(case side2=>exact (Kd.N_reads' HO_9.out).2.1);(case side3=>repeat (first|exact (Kd.N_reads' HO_10.out).2.2|(with_reducible refine cA_ ?_ _)|(with_reducible refine cN_ ?_ _)|(with_reducible refine cD_ ?_)));(case side4=>exact (Kd.N_reads' HO_10.out).2.1);rintro e w54 ⟨rfl,hb⟩;have n0_:=Aside0.mk (Kd.N_below (by (with_reducible repeat (first|apply nA_|apply nN_|apply nD_));exact HO_9.out) hb);have n1_:=Aside0.mk (Kd.N_below (by (with_reducible repeat (first|apply nA_|apply nN_|apply nD_));exact HO_10.out) hb);have n2_:=Aside0.mk (below_step (by repeat (first|(with_reducible first|exact HB.out|apply bA_|apply bN_|apply bD_)|exact HB.out)) hb);clear HO_9;clear HO_10;clear HB;have HO_9:=n0_;have HO_10:=n1_;have HB:=n2_;clear n0_ n1_ n2_;(try clear hb);(try clear hb2);(try clear hk);(try clear hi))|(go_at_call 19;(with_reducible refine (cadenceref4_Fits.calls k2 _ _ t334 x11_2 _ _ t337 t345 _ ?side1 ?side2 ?side3 ?side4 A26.out).mono ?_);(case side1=>repeat (first|exact (Kd.N_reads' HO_9.out).2.2|(with_reducible refine cA_ ?_ _)|(with_reducible refine cN_ ?_ _)|(with_reducible refine cD_ ?_)));(case side2=>exact (Kd.N_reads' HO_9.out).2.1);(case side3=>repeat (first|exact (Kd.N_reads' HO_10.out).2.2|(with_reducible refine cA_ ?_ _)|(with_reducible refine cN_ ?_ _)|(with_reducible refine cD_ ?_)));(case side4=>exact (Kd.N_reads' HO_10.out).2.1);rintro e w55 ⟨rfl,hb⟩;have n0_:=Aside0.mk (Kd.N_below (by (with_reducible repeat (first|apply nA_|apply nN_|apply nD_));exact HO_9.out) hb);have n1_:=Aside0.mk (Kd.N_below (by (with_reducible repeat (first|apply nA_|apply nN_|apply nD_));exact HO_10.out) hb);have n2_:=Aside0.mk (below_step (by repeat (first|(with_reducible first|exact HB.out|apply bA_|apply bN_|apply bD_)|exact HB.out)) hb);clear HO_9;clear HO_10;clear HB;have HO_9:=n0_;have HO_10:=n1_;have HB:=n2_;clear n0_ n1_ n2_;(try clear hb);(try clear hb2);(try clear hk);(try clear hi))|(go_at_call 20;(with_reducible refine (schema_To.calls _ _ t334 x11_2 a3 t346 _ ?side1 ?side2 A34.out).mono ?_);(case side1=>repeat (first|exact (Kd.N_reads' HO_9.out).2.2|(with_reducible refine cA_ ?_ _)|(with_reducible refine cN_ ?_ _)|(with_reducible refine cD_ ?_)));(case side2=>exact (Kd.N_reads' HO_9.out).2.1);rintro e w56 ⟨rfl,hb⟩;have n0_:=Aside0.mk (Kd.N_below (by (with_reducible repeat (first|apply nA_|apply nN_|apply nD_));exact HO_9.out) hb);have n1_:=Aside0.mk (Kd.N_below (by (with_reducible repeat (first|apply nA_|apply nN_|apply nD_));exact HO_10.out) hb);have n2_:=Aside0.mk (below_step (by repeat (first|(with_reducible first|exact HB.out|apply bA_|apply bN_|apply bD_)|exact HB.out)) hb);clear HO_9;clear HO_10;clear HB;have HO_9:=n0_;have HO_10:=n1_;have HB:=n2_;clear n0_ n1_ n2_;(try clear hb);(try clear hb2);(try clear hk);(try clear hi))|(go_at_call 21;(with_reducible refine (cadenceref4_To.calls k2 _ _ t334 x11_2 a3 t347 _ ?side1 ?side2 A35.out).mono ?_);(case side1=>repeat (first|exact (Kd.N_reads' HO_9.out).2.2|(with_reducible refine cA_ ?_ _)|(with_reducible refine cN_ ?_ _)|(with_reducible refine cD_ ?_)));(case side2=>exact (Kd.N_reads' HO_9.out).2.1);rintro e w57 ⟨rfl,hb⟩;have n0_:=Aside0.mk (Kd.N_below (by (with_reducible repeat (first|apply nA_|apply nN_|apply nD_));exact HO_9.out) hb);have n1_:=Aside0.mk (Kd.N_below (by (with_reducible repeat (first|apply nA_|apply nN_|apply nD_));exact HO_10.out) hb);have n2_:=Aside0.mk (below_step (by repeat (first|(with_reducible first|exact HB.out|apply bA_|apply bN_|apply bD_)|exact HB.out)) hb);clear HO_9;clear HO_10;clear HB;have HO_9:=n0_;have HO_10:=n1_;have HB:=n2_;clear n0_ n1_ n2_;(try clear hb);(try clear hb2);(try clear hk);(try clear hi))|(go_at_call 20;(with_reducible refine (schema_To.calls _ _ t334 x11_2 (⟨#[97]⟩:ByteArray) t348 _ ?side1 ?side2 A37.out).mono ?_);(case side1=>repeat (first|exact (Kd.N_reads' HO_9.out).2.2|(with_reducible refine cA_ ?_ _)|(with_reducible refine cN_ ?_ _)|(with_reducible refine cD_ ?_)));(case side2=>exact (Kd.N_reads' HO_9.out).2.1);rintro e w58 ⟨rfl,hb⟩;have n0_:=Aside0.mk (Kd.N_below (by (with_reducible repeat (first|apply nA_|apply nN_|apply nD_));exact HO_9.out) hb);have n1_:=Aside0.mk (Kd.N_below (by (with_reducible repeat (first|apply nA_|apply nN_|apply nD_));exact HO_10.out) hb);have n2_:=Aside0.mk (below_step (by repeat (first|(with_reducible first|exact HB.out|apply bA_|apply bN_|apply bD_)|exact HB.out)) hb);clear HO_9;clear HO_10;clear HB;have HO_9:=n0_;have HO_10:=n1_;have HB:=n2_;clear n0_ n1_ n2_;(try clear hb);(try clear hb2);(try clear hk);(try clear hi))|(go_at_call 21;(with_reducible refine (cadenceref4_To.calls k2 _ _ t334 x11_2 (⟨#[97]⟩:ByteArray) t349 _ ?side1 ?side2 A38.out).mono ?_);(case side1=>repeat (first|exact (Kd.N_reads' HO_9.out).2.2|(with_reducible refine cA_ ?_ _)|(with_reducible refine cN_ ?_ _)|(with_reducible refine cD_ ?_)));(case side2=>exact (Kd.N_reads' HO_9.out).2.1);rintro e w59 ⟨rfl,hb⟩;have n0_:=Aside0.mk (Kd.N_below (by (with_reducible repeat (first|apply nA_|apply nN_|apply nD_));exact HO_9.out) hb);have n1_:=Aside0.mk (Kd.N_below (by (with_reducible repeat (first|apply nA_|apply nN_|apply nD_));exact HO_10.out) hb);have n2_:=Aside0.mk (below_step (by repeat (first|(with_reducible first|exact HB.out|apply bA_|apply bN_|apply bD_)|exact HB.out)) hb);clear HO_9;clear HO_10;clear HB;have HO_9:=n0_;have HO_10:=n1_;have HB:=n2_;clear n0_ n1_ n2_;(try clear hb);(try clear hb2);(try clear hk);(try clear hi)))
            go_ret
            exact ⟨by first|rfl|(simp [errW_none,errW_some] <;> rfl)|(simp [*,errW_none,errW_some] <;> rfl),by repeat (first|(with_reducible first|exact HB.out|apply bA_|apply bN_|apply bD_)|exact HB.out)⟩
          ·rw [if_neg c36] at H
           have c36b0:(t346 == t347)=false:=beq_eq_false_iff_ne.mpr c36
           have c36b1:(t346 != t347)=true:=bne_iff_ne.mpr c36
           obtain rfl:=Option.some.inj H
           obtain ⟨Ao60,co60,eo60⟩:=Kd.N_slice HO_9.out
           subst eo60
           obtain ⟨Ao61,co61,eo61⟩:=Kd.N_slice HO_10.out
           subst eo61
           go_wp2_with (first|((with_reducible refine gate_callee (f:=16) rfl ?_);refine goesL_ (some 35) rfl rfl Try.func16 (by kernel_rfl) rfl #[.slice Ao60 t334.length co60,.int .i64 x11_2,.slice Ao61 t337.length co61] rfl (by (try simp only [List.map_toArray,List.map_cons,List.map_nil]);first|done|rfl|(simp only [List.length_drop,List.length_take];rfl)) ?_;(with_reducible refine (schema_Level.calls _ _ t334 x11_2 _ _ t337 t342 _ ?side1 ?side2 ?side3 ?side4 A18.out).mono ?_);(case side1=>repeat (first|exact (Kd.N_reads' HO_9.out).2.2|(with_reducible refine cA_ ?_ _)|(with_reducible refine cN_ ?_ _)|(with_reducible refine cD_ ?_)));(case side2=>exact (Kd.N_reads' HO_9.out).2.1);(case side3=>repeat (first|exact (Kd.N_reads' HO_10.out).2.2|(with_reducible refine cA_ ?_ _)|(with_reducible refine cN_ ?_ _)|(with_reducible refine cD_ ?_)));(case side4=>exact (Kd.N_reads' HO_10.out).2.1);rintro e w62 ⟨rfl,hb⟩;refine ⟨_,rfl,?_⟩;have n0_:=Aside0.mk (Kd.N_below (by (with_reducible repeat (first|apply nA_|apply nN_|apply nD_));exact HO_9.out) hb);have n1_:=Aside0.mk (Kd.N_below (by (with_reducible repeat (first|apply nA_|apply nN_|apply nD_));exact HO_10.out) hb);have n2_:=Aside0.mk (below_step (by repeat (first|(with_reducible first|exact HB.out|apply bA_|apply bN_|apply bD_)|exact HB.out)) hb);clear HO_9;clear HO_10;clear HB;have HO_9:=n0_;have HO_10:=n1_;have HB:=n2_;clear n0_ n1_ n2_;(try clear hb);(try clear hb2);(try clear hk);(try clear hi))|((with_reducible refine gate_callee (f:=17) rfl ?_);refine goesL_ (some 39) rfl rfl Try.func17 (by kernel_rfl) rfl #[.slice Ao60 t334.length co60,.int .i64 x11_2,.slice Ao61 t337.length co61] rfl (by (try simp only [List.map_toArray,List.map_cons,List.map_nil]);first|done|rfl|(simp only [List.length_drop,List.length_take];rfl)) ?_;(with_reducible refine (cadenceref4_Level.calls k2 _ _ t334 x11_2 _ _ t337 t343 _ ?side1 ?side2 ?side3 ?side4 A19.out).mono ?_);(case side1=>repeat (first|exact (Kd.N_reads' HO_9.out).2.2|(with_reducible refine cA_ ?_ _)|(with_reducible refine cN_ ?_ _)|(with_reducible refine cD_ ?_)));(case side2=>exact (Kd.N_reads' HO_9.out).2.1);(case side3=>repeat (first|exact (Kd.N_reads' HO_10.out).2.2|(with_reducible refine cA_ ?_ _)|(with_reducible refine cN_ ?_ _)|(with_reducible refine cD_ ?_)));(case side4=>exact (Kd.N_reads' HO_10.out).2.1);rintro e w63 ⟨rfl,hb⟩;refine ⟨_,rfl,?_⟩;have n0_:=Aside0.mk (Kd.N_below (by (with_reducible repeat (first|apply nA_|apply nN_|apply nD_));exact HO_9.out) hb);have n1_:=Aside0.mk (Kd.N_below (by (with_reducible repeat (first|apply nA_|apply nN_|apply nD_));exact HO_10.out) hb);have n2_:=Aside0.mk (below_step (by repeat (first|(with_reducible first|exact HB.out|apply bA_|apply bN_|apply bD_)|exact HB.out)) hb);clear HO_9;clear HO_10;clear HB;have HO_9:=n0_;have HO_10:=n1_;have HB:=n2_;clear n0_ n1_ n2_;(try clear hb);(try clear hb2);(try clear hk);(try clear hi))|(go_at_call 18;(with_reducible refine (schema_Fits.calls _ _ t334 x11_2 _ _ t337 t344 _ ?side1 ?side2 ?side3 ?side4 A25.out).mono ?_);(case side1=>repeat (first|exact (Kd.N_reads' HO_9.out).2.2|(with_reducible refine cA_ ?_ _)|(with_reducible refine cN_ ?_ _)|(with_reducible refine cD_ ?_)));(case side2=>exact (Kd.N_reads' HO_9.out).2.1);(case side3=>repeat (first|exact (Kd.N_reads' HO_10.out).2.2|(with_reducible refine cA_ ?_ _)|(with_reducible refine cN_ ?_ _)|(with_reducible refine cD_ ?_)));(case side4=>exact (Kd.N_reads' HO_10.out).2.1);rintro e w64 ⟨rfl,hb⟩;have n0_:=Aside0.mk (Kd.N_below (by (with_reducible repeat (first|apply nA_|apply nN_|apply nD_));exact HO_9.out) hb);have n1_:=Aside0.mk (Kd.N_below (by (with_reducible repeat (first|apply nA_|apply nN_|apply nD_));exact HO_10.out) hb);have n2_:=Aside0.mk (below_step (by repeat (first|(with_reducible first|exact HB.out|apply bA_|apply bN_|apply bD_)|exact HB.out)) hb);clear HO_9;clear HO_10;clear HB;have HO_9:=n0_;have HO_10:=n1_;have HB:=n2_;clear n0_ n1_ n2_;(try clear hb);(try clear hb2);(try clear hk);(try clear hi))|(go_at_call 19;(with_reducible refine (cadenceref4_Fits.calls k2 _ _ t334 x11_2 _ _ t337 t345 _ ?side1 ?side2 ?side3 ?side4 A26.out).mono ?_);(case side1=>repeat (first|exact (Kd.N_reads' HO_9.out).2.2|(with_reducible refine cA_ ?_ _)|(with_reducible refine cN_ ?_ _)|(with_reducible refine cD_ ?_)));(case side2=>exact (Kd.N_reads' HO_9.out).2.1);(case side3=>repeat (first|exact (Kd.N_reads' HO_10.out).2.2|(with_reducible refine cA_ ?_ _)|(with_reducible refine cN_ ?_ _)|(with_reducible refine cD_ ?_)));(case side4=>exact (Kd.N_reads' HO_10.out).2.1);rintro e w65 ⟨rfl,hb⟩;have n0_:=Aside0.mk (Kd.N_below (by (with_reducible repeat (first|apply nA_|apply nN_|apply nD_));exact HO_9.out) hb);have n1_:=Aside0.mk (Kd.N_below (by (with_reducible repeat (first|apply nA_|apply nN_|apply nD_));exact HO_10.out) hb);have n2_:=Aside0.mk (below_step (by repeat (first|(with_reducible first|exact HB.out|apply bA_|apply bN_|apply bD_)|exact HB.out)) hb);clear HO_9;clear HO_10;clear HB;have HO_9:=n0_;have HO_10:=n1_;have HB:=n2_;clear n0_ n1_ n2_;(try clear hb);(try clear hb2);(try clear hk);(try clear hi))|(go_at_call 20;(with_reducible refine (schema_To.calls _ _ t334 x11_2 a3 t346 _ ?side1 ?side2 A34.out).mono ?_);(case side1=>repeat (first|exact (Kd.N_reads' HO_9.out).2.2|(with_reducible refine cA_ ?_ _)|(with_reducible refine cN_ ?_ _)|(with_reducible refine cD_ ?_)));(case side2=>exact (Kd.N_reads' HO_9.out).2.1);rintro e w66 ⟨rfl,hb⟩;have n0_:=Aside0.mk (Kd.N_below (by (with_reducible repeat (first|apply nA_|apply nN_|apply nD_));exact HO_9.out) hb);have n1_:=Aside0.mk (Kd.N_below (by (with_reducible repeat (first|apply nA_|apply nN_|apply nD_));exact HO_10.out) hb);have n2_:=Aside0.mk (below_step (by repeat (first|(with_reducible first|exact HB.out|apply bA_|apply bN_|apply bD_)|exact HB.out)) hb);clear HO_9;clear HO_10;clear HB;have HO_9:=n0_;have HO_10:=n1_;have HB:=n2_;clear n0_ n1_ n2_;(try clear hb);(try clear hb2);(try clear hk);(try clear hi))|(go_at_call 21;(with_reducible refine (cadenceref4_To.calls k2 _ _ t334 x11_2 a3 t347 _ ?side1 ?side2 A35.out).mono ?_);(case side1=>repeat (first|exact (Kd.N_reads' HO_9.out).2.2|(with_reducible refine cA_ ?_ _)|(with_reducible refine cN_ ?_ _)|(with_reducible refine cD_ ?_)));(case side2=>exact (Kd.N_reads' HO_9.out).2.1);rintro e w67 ⟨rfl,hb⟩;have n0_:=Aside0.mk (Kd.N_below (by (with_reducible repeat (first|apply nA_|apply nN_|apply nD_));exact HO_9.out) hb);have n1_:=Aside0.mk (Kd.N_below (by (with_reducible repeat (first|apply nA_|apply nN_|apply nD_));exact HO_10.out) hb);have n2_:=Aside0.mk (below_step (by repeat (first|(with_reducible first|exact HB.out|apply bA_|apply bN_|apply bD_)|exact HB.out)) hb);clear HO_9;clear HO_10;clear HB;have HO_9:=n0_;have HO_10:=n1_;have HB:=n2_;clear n0_ n1_ n2_;(try clear hb);(try clear hb2);(try clear hk);(try clear hi)))
           go_ret
           exact ⟨by first|rfl|(simp [errW_none,errW_some] <;> rfl)|(simp [*,errW_none,errW_some] <;> rfl),by repeat (first|(with_reducible first|exact HB.out|apply bA_|apply bN_|apply bD_)|exact HB.out)⟩
       ·rw [if_neg c17] at H
        have c17b0:decide (x11_2≤(t334.length:Int))=false:=decide_eq_false c17
        clear c17
        replace H:=Option.bind_eq_some_iff.mp H
        obtain ⟨t340,A680,H⟩:=H
        replace H:((cadenceref4_Fits.f k2 t334 a2 ([]:List (S53))).bind fun t341=>(some (t340 == t341)))=some r:=H
        have A68:=Aside0.mk A680
        clear A680
        replace H:=Option.bind_eq_some_iff.mp H
        obtain ⟨t341,A690,H⟩:=H
        replace H:(some (t340 == t341))=some r:=H
        have A69:=Aside0.mk A690
        clear A690
        obtain rfl:=Option.some.inj H
        obtain ⟨Ao70,co70,eo70⟩:=Kd.N_slice HO_9.out
        subst eo70
        go_wp2_with (first|((with_reducible refine gate_callee (f:=18) rfl ?_);refine goesL_ (some 74) rfl rfl Try.func18 (by kernel_rfl) rfl #[.slice Ao70 t334.length co70,.int .i64 a2,.slice none 0 0] rfl (by (try simp only [List.map_toArray,List.map_cons,List.map_nil]);first|done|rfl|(simp only [List.length_drop,List.length_take];rfl)) ?_;(refine (schema_Fits.calls _ _ t334 a2 _ _ ([]:List (S53)) t340 _ ?side1 ?side2 ?side3 ?side4 A68.out).mono ?_);(case side1=>repeat (first|exact (Kd.N_reads' HO_9.out).2.2|(with_reducible refine cA_ ?_ _)|(with_reducible refine cN_ ?_ _)|(with_reducible refine cD_ ?_)));(case side2=>exact (Kd.N_reads' HO_9.out).2.1);(case side3=>exact Kd.C_nil _ _);(case side4=>exact Nat.le_refl _);rintro e w71 ⟨rfl,hb⟩;refine ⟨_,rfl,?_⟩;have n0_:=Aside0.mk (Kd.N_below (by (with_reducible repeat (first|apply nA_|apply nN_|apply nD_));exact HO_9.out) hb);have n1_:=Aside0.mk (Kd.N_below (by (with_reducible repeat (first|apply nA_|apply nN_|apply nD_));exact HO_10.out) hb);have n2_:=Aside0.mk (below_step (by repeat (first|(with_reducible first|exact HB.out|apply bA_|apply bN_|apply bD_)|exact HB.out)) hb);clear HO_9;clear HO_10;clear HB;have HO_9:=n0_;have HO_10:=n1_;have HB:=n2_;clear n0_ n1_ n2_;(try clear hb);(try clear hb2);(try clear hk);(try clear hi))|((with_reducible refine gate_callee (f:=19) rfl ?_);refine goesL_ (some 77) rfl rfl Try.func19 (by kernel_rfl) rfl #[.slice Ao70 t334.length co70,.int .i64 a2,.slice none 0 0] rfl (by (try simp only [List.map_toArray,List.map_cons,List.map_nil]);first|done|rfl|(simp only [List.length_drop,List.length_take];rfl)) ?_;(refine (cadenceref4_Fits.calls k2 _ _ t334 a2 _ _ ([]:List (S53)) t341 _ ?side1 ?side2 ?side3 ?side4 A69.out).mono ?_);(case side1=>repeat (first|exact (Kd.N_reads' HO_9.out).2.2|(with_reducible refine cA_ ?_ _)|(with_reducible refine cN_ ?_ _)|(with_reducible refine cD_ ?_)));(case side2=>exact (Kd.N_reads' HO_9.out).2.1);(case side3=>exact Kd.C_nil _ _);(case side4=>exact Nat.le_refl _);rintro e w72 ⟨rfl,hb⟩;refine ⟨_,rfl,?_⟩;have n0_:=Aside0.mk (Kd.N_below (by (with_reducible repeat (first|apply nA_|apply nN_|apply nD_));exact HO_9.out) hb);have n1_:=Aside0.mk (Kd.N_below (by (with_reducible repeat (first|apply nA_|apply nN_|apply nD_));exact HO_10.out) hb);have n2_:=Aside0.mk (below_step (by repeat (first|(with_reducible first|exact HB.out|apply bA_|apply bN_|apply bD_)|exact HB.out)) hb);clear HO_9;clear HO_10;clear HB;have HO_9:=n0_;have HO_10:=n1_;have HB:=n2_;clear n0_ n1_ n2_;(try clear hb);(try clear hb2);(try clear hk);(try clear hi)))
        go_ret
        exact ⟨by first|rfl|(simp [errW_none,errW_some] <;> rfl)|(simp [*,errW_none,errW_some] <;> rfl),by repeat (first|(with_reducible first|exact HB.out|apply bA_|apply bN_|apply bD_)|exact HB.out)⟩
 ·replace c6:=Bool.eq_false_iff.mpr c6
  subst c6
  have H1:(some false)=some r:=by rw [if_neg (show ¬ (false=true) by decide)] at H;exact H
  clear H
  have H:=H1
  clear H1
  obtain rfl:=Option.some.inj H
  go_enter Try.func4,Try.ntmps4
  go_wp2_with (first|((with_reducible refine gate_callee (f:=8) rfl ?_);refine goesL_ (some 12) rfl rfl Try.func8 (by kernel_rfl) rfl #[] rfl (by (try simp only [List.map_toArray,List.map_cons,List.map_nil]);first|done|rfl|(simp only [List.length_drop,List.length_take];rfl)) ?_;(with_reducible refine (cadencelaw4_known.calls  false _ A5.out).mono ?_);rintro e w73 ⟨rfl,hb⟩;refine ⟨_,rfl,?_⟩;have n0_:=Aside0.mk (below_step (by repeat (first|(with_reducible first|exact HB.out|apply bA_|apply bN_|apply bD_)|exact HB.out)) hb);clear HB;have HB:=n0_;clear n0_;(try clear hb);(try clear hb2);(try clear hk);(try clear hi)))
  go_ret
  exact ⟨by first|rfl|(simp [errW_none,errW_some] <;> rfl)|(simp [*,errW_none,errW_some] <;> rfl),by repeat (first|(with_reducible first|exact HB.out|apply bA_|apply bN_|apply bD_)|exact HB.out)⟩
end Go.Proofs.Ytoihiehoolehiaa.PX
set_option linter.unusedVariables false
set_option linter.unusedSimpArgs false
namespace Go.Proofs.Ytoihiehoolehiaa.PX
open Go.RowKit Go.Proofs.YtoihiehoolehiaaW.PrintWords Go.Proofs.YtoihiehoolehiaaW.PrintLast Go.Proofs.YtoihiehoolehiaaW.PrintMore Go.Proofs.Ytoihiehoolehiaa
theorem schemaFits_ev (s:Sc) (hs:ScIn s) {l:List Raw} (hr:RawOk l) (a:Int) (n:ByteArray):Ev (fun k=>cadencelaw4_SchemaFits.f k s l a n) true:=by
 obtain ⟨K1,hK1⟩:∃ n:Nat,n=0:=⟨0,rfl⟩
 obtain ⟨b,hb,K2,h2⟩:=few4_ev hs
 obtain ⟨c,hc,K3,h3⟩:=few_ev hr
 by_cases hgo:b=true∧c=true
 ·obtain ⟨rfl,rfl⟩:=hgo
  obtain ⟨m,hm,K4,h4⟩:=make4_ev s (hb rfl)
  obtain ⟨t,ht,K5,h5⟩:=small_ev hr 6 4 (by omega) (by omega)
  have hok:=small_ok hm
  have htr:=ok_trOk 6 (by omega) 4 t ht
  have hlen:=(trOk_len htr).1
  have hL:∀ d,schema_Level.f m d t=some (levelM m d t):=fun d=>by unfold schema_Level.f;rw [if_pos ⟨hok,hlen⟩]
  have hF:∀ d,schema_Fits.f m d t=some (fitsM m d t):=fun d=>by unfold schema_Fits.f;rw [if_pos ⟨hok,htr⟩]
  have hN:∀ d,schema_Fits.f m d []=some (fitsM m d []):=fun d=>by unfold schema_Fits.f;rw [if_pos ⟨hok,trOk_nil⟩]
  have hT:∀ d x,schema_To.f m d x=some (toM m d x):=fun d x=>by unfold schema_To.f;rw [if_pos hok]
  have loop:∀ e (i:Nat),i+e=m.length+2→Ev (fun k=>cadencelaw4_SchemaFits.l0 k a n m t ((i:Int) - 1)) true:=by
   intro e
   induction e with
   | zero =>
    intro i hi
    have e1:∀ k,cadencelaw4_SchemaFits.l0 (k+1) a n m t ((i:Int) - 1)=(cadenceref4_Fits.f k m a []).bind fun y=>some (fitsM m a [] == y):=fun k=>by
     rw [cadencelaw4_SchemaFits.l0,if_neg (by omega),hN,Option.bind_some]
    refine Ev.step e1 (Ev.bind (fits4_ev m hok _ [] (Nat.le_refl _) trOk_nil a) ?_)
    rw [beq_self_eq_true]
    exact Ev.now _
   | succ e ih =>
    intro i hi
    obtain ⟨Ka,ha⟩:=level4_ev m hok ((i:Int) - 1) t hlen
    obtain ⟨Kb,hb⟩:=fits4_ev m hok _ t (Nat.le_refl _) htr ((i:Int) - 1)
    obtain ⟨Kc,hc⟩:=to4_ev m hok ((i:Int) - 1) n
    obtain ⟨Kd,hd⟩:=to4_ev m hok ((i:Int) - 1) ⟨#[97]⟩
    obtain ⟨Ke,he⟩:=ih (i+1) (by omega)
    refine ⟨Ka+Kb+Kc+Kd+Ke+1,fun k hk=>?_⟩
    obtain ⟨k,rfl⟩:∃ k',k=k'+1:=⟨k - 1,by omega⟩
    have ha:cadenceref4_Level.f k m ((i:Int) - 1) t=some _:=ha k (by omega)
    have hb:cadenceref4_Fits.f k m ((i:Int) - 1) t=some _:=hb k (by omega)
    have hc:cadenceref4_To.f k m ((i:Int) - 1) n=some _:=hc k (by omega)
    have hd:cadenceref4_To.f k m ((i:Int) - 1) ⟨#[97]⟩=some _:=hd k (by omega)
    have he:cadencelaw4_SchemaFits.l0 k a n m t (((i+1:Nat):Int) - 1)=some true:=he k (by omega)
    show cadencelaw4_SchemaFits.l0 (k+1) a n m t ((i:Int) - 1)=some true
    rw [cadencelaw4_SchemaFits.l0,if_pos (by omega),hL,ha,Option.bind_some,Option.bind_some,if_neg (by simp),hF,hb,Option.bind_some,Option.bind_some,if_neg (by simp),hT,hc,Option.bind_some,Option.bind_some,if_pos rfl,hT,hd,Option.bind_some,Option.bind_some,if_pos rfl,
     show wrap64 ((i:Int) - 1+1)=((i+1:Nat):Int) - 1 by rw [wrap_id (by omega) (by omega)];omega,he]
  obtain ⟨K6,h6⟩:=loop _ 0 (Nat.zero_add _)
  refine ⟨K1+K2+K3+K4+K5+K6+1,fun k hk=>?_⟩
  have h1:cadencelaw4_known.f=some true:=known4
  have h2:cadencelaw4_Few.f k s=some true:=h2 k (by omega)
  have h3:cadencelaw2_Few.f k l=some true:=h3 k (by omega)
  show cadencelaw4_SchemaFits.f k s l a n=some true
  unfold cadencelaw4_SchemaFits.f
  rw [h1,Option.bind_some,if_pos rfl,h2,Option.bind_some,if_pos rfl,h3,Option.bind_some]
  obtain ⟨k,rfl⟩:∃ k',k=k'+1:=⟨k - 1,by omega⟩
  have h4:cadencelaw4_Make.f k s=some m:=h4 k (by omega)
  have h5:cadencelaw4_Small.f k l 6 4=some t:=h5 k (by omega)
  have h6:cadencelaw4_SchemaFits.l0 k a n m t (-1)=some true:=h6 k (by omega)
  rw [cadencelaw4_SchemaFits.j0,if_neg (by simp),h4,Option.bind_some,h5,Option.bind_some,h6]
 ·refine ⟨K1+K2+K3+1,fun k hk=>?_⟩
  have h1:cadencelaw4_known.f=some true:=known4
  have h2:cadencelaw4_Few.f k s=some b:=h2 k (by omega)
  have h3:cadencelaw2_Few.f k l=some c:=h3 k (by omega)
  have hj:∀ k,cadencelaw4_SchemaFits.j0 (k+1) s l a n true=some true:=fun k=>by rw [cadencelaw4_SchemaFits.j0,if_pos rfl]
  show cadencelaw4_SchemaFits.f k s l a n=some true
  unfold cadencelaw4_SchemaFits.f
  rw [h1,Option.bind_some,if_pos rfl,h2,Option.bind_some]
  obtain ⟨k,rfl⟩:∃ k',k=k'+1:=⟨k - 1,by omega⟩
  cases b with
  | false=>rw [if_neg Bool.false_ne_true,hj]
  | true =>
   rw [if_pos rfl,h3,Option.bind_some]
   cases c with
   | true=>exact absurd ⟨rfl,rfl⟩ hgo
   | false=>exact hj k
end Go.Proofs.Ytoihiehoolehiaa.PX
set_option linter.unusedVariables false
set_option linter.unusedSimpArgs false
namespace Go.Proofs.Ytoihiehoolehiaa.schemaFits
open Go.ChangeShapes Go.WideShapes Go.ChangeAt Go.RowKit
open Go.ChangeMaps (open_string shut_string)
open Go.Proofs.Ytoihiehoolehiaa.PX
theorem own : ownKnob Try.prog.godebug = none := by kernel_rfl
theorem laidOut : laidOutB Try.prog = true := by kernel_rfl
set_option maxRecDepth 100000 in
theorem lifted (os : Os) (started : os.Started) (H : Type) (enc : TypeId × Value → H) :
    ReturnsInHanded {} Try.checked os 4 .any (Rows.schemaFitsSpec.pre6 enc Try.prog Try.f4 Rows.schemaFitsRow.domain false) (Rows.schemaFitsSpec.post enc Try.prog Try.f4 false true false false) := by
  refine returnsInHanded_of_change_sized (C := Try.checked) own started (by kernel_rfl) Try.func4
    (ChangeSpec.witness6 (enc := enc) (C := Try.checked) false ⟨#[], #[.slice none 0 0, .slice none 0 0, .int .i64 0, .string ByteArray.empty], []⟩ 8 (by kernel_rfl) (by kernel_rfl) (by kernel_rfl) (by kernel_rfl)) ?_
  intro W base args ds gs before hval0 hW hcnd hsz0 _
  have hsz : (DataW.weightsEach Try.prog (Try.f4.params.toList ++ Rows.schemaFitsSpec.plain.varTypes Try.prog) (ds ++ gs)).all (· ≤ reachBytes) = true := hsz0
  have hval : ∀ (j : Nat) t v, Try.f4.params[j]? = some t → args[j]? = some v → Value.okWide Try.prog W .any base t v := hval0
  have hW' := hW
  obtain ⟨p, q, hA0, hV, rfl, hfz, hnd⟩ := hW
  have hA : DataW.TrodAll enc Try.prog W 0 (fun _ => true) true Try.f4.params.toList args.toList ds p := hA0
  rw [Try.params4] at hA hval hsz
  obtain ⟨v0, vs0, d0, ds0, p0, q0, hargs, rfl, rfl, h0, r0⟩ := trodAll_cons hA
  obtain ⟨v1, vs1, d1, ds1, p1, q1, rfl, rfl, rfl, h1, r1⟩ := trodAll_cons r0
  obtain ⟨v2, vs2, d2, ds2, p2, q2, rfl, rfl, rfl, h2, r2⟩ := trodAll_cons r1
  obtain ⟨v3, vs3, d3, ds3, p3, q3, rfl, rfl, rfl, h3, r3⟩ := trodAll_cons r2
  obtain ⟨rfl, rfl, rfl⟩ := trodAll_nil r3
  obtain rfl : args = #[v0, v1, v2, v3] := by cases args; simp_all
  obtain ⟨rfl, rfl⟩ := trodVars_none hV
  have lt0 : ∀ x ∈ p0, x.block < W.heap.size := by obtain ⟨m, hm⟩ := h0; exact DataW.trod_lt m _ _ _ hm
  have k0 := h0
  have lt1 : ∀ x ∈ p1, x.block < W.heap.size := by obtain ⟨m, hm⟩ := h1; exact DataW.trod_lt m _ _ _ hm
  have k1 := h1
  have lt2 : ∀ x ∈ p2, x.block < W.heap.size := by obtain ⟨m, hm⟩ := h2; exact DataW.trod_lt m _ _ _ hm
  have k2 := h2
  have lt3 : ∀ x ∈ p3, x.block < W.heap.size := by obtain ⟨m, hm⟩ := h3; exact DataW.trod_lt m _ _ _ hm
  have k3 := h3
  obtain ⟨a0, c0, x0, rfl, L0, C0, R0⟩ := open_schemaK (okWide_slice Try.underlying23 (hval 0 23 v0 rfl rfl)) h0 hsz (j := 0) rfl rfl
  obtain ⟨a1, c1, x1, rfl, L1, C1, R1⟩ := open_raw (okWide_slice Try.underlying43 (hval 1 43 v1 rfl rfl)) h1 hsz (j := 1) rfl rfl
  obtain ⟨x2, rfl, _, _, w2⟩ := open_int Try.underlying3 (hval 2 3 v2 rfl rfl) h2
  obtain ⟨x3, rfl, _, _, w3⟩ := open_string Try.underlying9 (hval 3 9 v3 rfl rfl) h3
  clear hA0 hval0 hsz0 hsz
  obtain ⟨k, hk⟩ := (schemaFits_ev x0 R0 R1 x2 x3).rounds
  refine (cadencelaw4_SchemaFits.calls k a0 c0 x0 a1 c1 x1 x2 x3 true W C0 L0 C1 L1 hk).mono fun e W' ⟨he, bel⟩ => ?_
  subst he
  exact ⟨_, rfl, _, _, _, [], _, [], hW', trodAll_mk1 (shut_bool Try.underlying4 _), (trodAll_cons_mk (Below.trod laidOut (by kernel_rfl) (of_decide_eq_true (by kernel_rfl)) k0 bel lt0) (trodAll_cons_mk (Below.trod laidOut (by kernel_rfl) (of_decide_eq_true (by kernel_rfl)) k1 bel lt1) (trodAll_cons_mk (Below.trod laidOut (by kernel_rfl) (of_decide_eq_true (by kernel_rfl)) k2 bel lt2) (trodAll_cons_mk (Below.trod laidOut (by kernel_rfl) (of_decide_eq_true (by kernel_rfl)) k3 bel lt3) trodAll_mk0)))), rfl, bel.frame _, fun h => by cases h⟩
theorem over : Rows.schemaFitsRow.holds Try.pinned (OpenSpec.ofChange Rows.schemaFitsSpec) :=
  OpenClaim.holds_of_wide 4 Try.f4 rfl rfl rfl rfl rfl rfl rfl ⟨rfl, rfl, rfl, rfl, rfl⟩ rfl rfl rfl rfl rfl (by kernel_rfl) Try.func4 (by kernel_rfl)
    (of_decide_eq_true (by kernel_rfl)) (by unfold Func.isWrapper; first | (rw [if_pos (by decide +kernel)]; kernel_rfl) | (rw [if_neg (by decide +kernel)]; exact ⟨rfl, rfl⟩))
    (fun os started H enc _ => lifted os started H enc)
theorem proved : Rows.SchemaFitsSaid := over
#print axioms proved
end Go.Proofs.Ytoihiehoolehiaa.schemaFits
